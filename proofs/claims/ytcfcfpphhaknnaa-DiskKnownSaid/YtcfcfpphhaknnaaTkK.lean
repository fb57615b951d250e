/- The closed law of disks: its walk. -/
import Derived.Test.YtcfcfpphhaknnaaTkJ
import Derived.Test.YtcfcfpphhaknnaaLawStays
import Derived.Test.YtcfcfpphhaknnaaLawRoom
import Derived.Test.YtcfcfpphhaknnaaLawMoves
import Derived.Lib.SmallJoins
namespace Go.Proofs.Ytcfcfpphhaknnaa
open Go.RowKit Go.Maps

theorem hb_01 (k : Int) (s : ByteArray) : Try.prog.built 50 [(0, .int .u8 k), (1, .string s)] = some #[.int .u8 k, .string s, .string ⟨#[]⟩, .slice none 0 0, .int .i64 0, .slice none 0 0] := by kernel_rfl
theorem hb_012 (k : Int) (s t : ByteArray) : Try.prog.built 50 [(0, .int .u8 k), (1, .string s), (2, .string t)] = some #[.int .u8 k, .string s, .string t, .slice none 0 0, .int .i64 0, .slice none 0 0] := by kernel_rfl
theorem hb_013 (k : Int) (s : ByteArray) (A : Option Addr) (n c : Nat) : Try.prog.built 50 [(0, .int .u8 k), (1, .string s), (3, .slice A n c)] = some #[.int .u8 k, .string s, .string ⟨#[]⟩, .slice A n c, .int .i64 0, .slice none 0 0] := by kernel_rfl
theorem hb_014 (k n : Int) (s : ByteArray) : Try.prog.built 50 [(0, .int .u8 k), (1, .string s), (4, .int .i64 n)] = some #[.int .u8 k, .string s, .string ⟨#[]⟩, .slice none 0 0, .int .i64 n, .slice none 0 0] := by kernel_rfl
theorem hb_04 (k n : Int) : Try.prog.built 50 [(0, .int .u8 k), (4, .int .i64 n)] = some #[.int .u8 k, .string ⟨#[]⟩, .string ⟨#[]⟩, .slice none 0 0, .int .i64 n, .slice none 0 0] := by kernel_rfl
theorem hb_05 (k : Int) (A : Option Addr) (n c : Nat) : Try.prog.built 50 [(0, .int .u8 k), (5, .slice A n c)] = some #[.int .u8 k, .string ⟨#[]⟩, .string ⟨#[]⟩, .slice none 0 0, .int .i64 0, .slice A n c] := by kernel_rfl
theorem hb_0 (k : Int) : Try.prog.built 50 [(0, .int .u8 k)] = some #[.int .u8 k, .string ⟨#[]⟩, .string ⟨#[]⟩, .slice none 0 0, .int .i64 0, .slice none 0 0] := by kernel_rfl
theorem infoCallX : ((Try.prog.info? 50).bind (·.zero)).isSome = true := by kernel_rfl
theorem infoU1 : (Try.prog.info? 5).map (·.size) = some 1 := by kernel_rfl
theorem infoB1 : (Try.prog.info? 22).map (·.size) = some 1 := by kernel_rfl
theorem infoB2 : ((Try.prog.info? 22).bind (·.zero)).isSome = true := by kernel_rfl
theorem infoP1 : (Try.prog.info? 43).map (·.size) = some 2 := by kernel_rfl
theorem infoP2 : ((Try.prog.info? 43).bind (·.zero)).isSome = true := by kernel_rfl
theorem infoPz : ((Try.prog.info? 43).bind (·.zero)).map (·.cells.size) = some 2 := by kernel_rfl
theorem bt_mark (w : World) (s : ByteArray) (fz : Nat × Nat) (g : Nat) (hg : w.heap.size = g) : Bt (w.alloc (.cells (ucells s).toArray 5 fz)) (.slice (some ⟨g, 0, none⟩) s.size s.size) s := by
  subst hg
  refine ⟨_, _, rfl, Nat.le_refl _, fun _ => ⟨w.heap.size, 0, (ucells s).toArray, fz, rfl, heap_alloc_new w _, fun j hj => ?_⟩⟩
  rw [Nat.zero_add, List.getElem?_toArray]
  exact ucells_at s j hj
theorem infoI1 : (Try.prog.info? 3).map (·.size) = some 1 := by kernel_rfl
theorem infoI2 : ((Try.prog.info? 3).bind (·.zero)).isSome = true := by kernel_rfl
theorem infoU2 : ((Try.prog.info? 5).bind (·.zero)).isSome = true := by kernel_rfl
def G15 : Nat → Value → World → Prop
  | 0, v, w => BtV w v ⟨#[1, 2]⟩
  | 1, v, w => BtV w v ⟨#[3]⟩
  | 2, v, w => BtV w v ⟨#[4, 5, 6]⟩
  | 3, v, w => BtV w v ⟨#[7]⟩
  | 4, v, w => BtV w v ⟨#[8, 9]⟩
  | 5, v, w => ∃ sv, BtV w sv ⟨#[1, 2]⟩ ∧ v = .agg #[.int .u8 0, .string ⟨#[97]⟩, .string ⟨#[]⟩, sv, .int .i64 0, .slice none 0 0]
  | 6, v, w => ∃ sv, BtV w sv ⟨#[3]⟩ ∧ v = .agg #[.int .u8 1, .string ⟨#[98]⟩, .string ⟨#[]⟩, sv, .int .i64 0, .slice none 0 0]
  | 7, v, w => ∃ sv, BtV w sv ⟨#[4, 5, 6]⟩ ∧ v = .agg #[.int .u8 0, .string ⟨#[97]⟩, .string ⟨#[]⟩, sv, .int .i64 0, .slice none 0 0]
  | 8, v, w => ∃ sv, BtV w sv ⟨#[7]⟩ ∧ v = .agg #[.int .u8 0, .string ⟨#[97]⟩, .string ⟨#[]⟩, sv, .int .i64 0, .slice none 0 0]
  | 9, v, w => ∃ sv, BtV w sv ⟨#[8, 9]⟩ ∧ v = .agg #[.int .u8 1, .string ⟨#[101]⟩, .string ⟨#[]⟩, sv, .int .i64 0, .slice none 0 0]
  | _, _, _ => False
theorem G15_below : ∀ n v w w', Below w.heap.size w w' → G15 n v w → G15 n v w' := by
  intro n v w w' hb
  match n with
  | 0 => exact fun h => BtV.below h hb
  | 1 => exact fun h => BtV.below h hb
  | 2 => exact fun h => BtV.below h hb
  | 3 => exact fun h => BtV.below h hb
  | 4 => exact fun h => BtV.below h hb
  | 5 => exact fun ⟨sv, h1, h2⟩ => ⟨sv, h1.below hb, h2⟩
  | 6 => exact fun ⟨sv, h1, h2⟩ => ⟨sv, h1.below hb, h2⟩
  | 7 => exact fun ⟨sv, h1, h2⟩ => ⟨sv, h1.below hb, h2⟩
  | 8 => exact fun ⟨sv, h1, h2⟩ => ⟨sv, h1.below hb, h2⟩
  | 9 => exact fun ⟨sv, h1, h2⟩ => ⟨sv, h1.below hb, h2⟩
  | n + 10 => exact id
theorem flatT_map (L : List CvT) : ((L.map fun x => Value.agg (cvCellsT x).toArray).flatMap fun v => v.cells.toList) = L.flatMap cvCellsT := by
  rw [List.flatMap_map]
  rfl
/-- behind region 15 -/
def Kn15 (w wx : World) (s t : ByteArray) (v : Value) : Prop := ∃ g v1 v2 v3 v4 v5, v = .slice (some ⟨g, 0, none⟩) 18 18 ∧ Blk wx g 50 ((knA s t v1 v2 v3 v4 v5).flatMap cvCellsT).toArray ∧
  (BtV wx v1 ⟨#[1, 2]⟩ ∧ BtV wx v2 ⟨#[3]⟩ ∧ BtV wx v3 ⟨#[4, 5, 6]⟩ ∧ BtV wx v4 ⟨#[7]⟩ ∧ BtV wx v5 ⟨#[8, 9]⟩) ∧ Below w.heap.size w wx
theorem bt_blk {w : World} {g : Nat} {s : ByteArray} (h : Blk w g 5 (ucells s).toArray) : Bt w (.slice (some ⟨g, 0, none⟩) s.size s.size) s :=
  ⟨_, _, rfl, Nat.le_refl _, fun _ => ⟨g, 0, _, _, rfl, h, fun j hj => by rw [Nat.zero_add, List.getElem?_toArray]; exact ucells_at s j hj⟩⟩
theorem infoCT : (Try.prog.info? 50).map (fun i => (i.zero, i.size, i.bytes)) = some (some (.agg #[.int .u8 0, .string ⟨#[]⟩, .string ⟨#[]⟩, .slice none 0 0, .int .i64 0, .slice none 0 0]), 6, 96) := by kernel_rfl
/-- the law's rows of calls -/
structure KnS (w wr : World) (gA gB cB : Nat) (lA lB : List CallD) : Prop where
  a : CallsT wr (some ⟨gA, 0, none⟩) lA
  b : CallsT wr (some ⟨gB, 0, none⟩) lB
  below : Below w.heap.size w wr
theorem KnS.step {w wr w2 : World} {gA gB cB : Nat} {lA lB : List CallD} (h : KnS w wr gA gB cB lA lB) (hb : Below wr.heap.size wr w2) : KnS w w2 gA gB cB lA lB := ⟨h.a.below hb, h.b.below hb, h.below.trans (hb.mono h.below.size)⟩
theorem own_calls {w : World} {B n c : Nat} {A : Option Addr} {L : List CvT} (h : w.ownsRow B 50 6 (.slice A n c) n (L.flatMap cvCellsT)) (hn : n = L.length) (h0 : 0 < n) (hL : ∀ x ∈ L, CvOkT w x) : ∃ g, A = some ⟨g, 0, none⟩ ∧ CallsT w (some ⟨g, 0, none⟩) (L.map (·.1)) := by
  obtain ⟨g, cap, hv, _, hlt⟩ := h.form h0
  have hA : A = some ⟨g, 0, none⟩ := by injection hv
  subst hA
  refine ⟨g, rfl, callsT_of hlt (fun j hj => ?_) hL⟩
  rw [Nat.zero_add]
  exact h.cellAt j (by omega)
set_option maxRecDepth 100000 in
set_option maxHeartbeats 16000000 in
theorem dknown_any (w : World) : Calls Try.prog 6 #[] w fun e w' => e = .returned (.bool true) ∧ Below w.heap.size w w' := by
  go_enter Try.func6, Try.ntmps6
  go_wp2
  go_loopg [1] 129 (fun gf v1 wr => ∃ s : ByteArray, v1 = .string s ∧ s.size + gf = 129 ∧ wr = w)
  case atStart => exact ⟨⟨#[]⟩, rfl, rfl, rfl⟩
  case round =>
    obtain ⟨s, rfl, hs, rfl⟩ := hrel
    cases gk with
    | succ gf =>
      have hsI : (s.size : Int) < 129 := by omega
      have hsz : (s ++ (⟨#[110]⟩ : ByteArray)).size = s.size + 1 := by rw [ByteArray.size_append]; rfl
      have h1 : (⟨#[110]⟩ : ByteArray).size = 1 := rfl
      go_wp2
      go_roundg gf
      case measure => omega
      case rel => exact ⟨_, rfl, by omega, rfl⟩
    | zero =>
      have hsI : ¬ (s.size : Int) < 129 := by omega
      have hs129 : s.size = 129 := by omega
      obtain ⟨T, hT⟩ : ∃ T, s.extract 1 s.size = T := ⟨_, rfl⟩
      have hT128 : T.size = 128 := by rw [← hT, ByteArray.size_extract]; omega
      have hslS : ∀ W, (Instr.sliceAt 9 (.string s) (some (.int .i64 1)) none none).run Try.prog W = .ok (.string T) W := fun W => by
        rw [← hT]
        go_simp
      have HBX := Lib.hid (Below.refl wr.heap.size wr)
      go_upto_region 11 with (first
        | (go_at_call 21; refine (fail_nilD _ _).mono ?_; rintro e wz ⟨rfl, rfl⟩)
        | (go_at_call 12; refine (crash_nilD _).mono ?_; rintro e wz ⟨rfl, rfl⟩)
        | (go_at_call 13; refine (on_nilD _ _).mono ?_; rintro e wz ⟨rfl, rfl⟩)
        | (go_at_call 22; refine (off_nilD _).mono ?_; rintro e wz ⟨rfl, rfl⟩)
        | (go_at_call 17; refine (steps_nilD _).mono ?_; rintro e wz ⟨rfl, rfl⟩)
        | (go_at_call 16; refine (used_nilD _).mono ?_; rintro e wz ⟨rfl, rfl⟩)
        | (go_at_call 11; refine (copy_nilD _).mono ?_; rintro e wz ⟨rfl, rfl⟩)
        | (go_at_call 23; refine (names_nilD _).mono ?_; rintro e wz ⟨rfl, rfl⟩)
        | (go_at_call 14; refine (read_nilD _ _).mono ?_; rintro e wz ⟨rfl, hbz⟩; have HBX := Lib.hid (HBX.out.trans (hbz.mono HBX.out.size)); clear hbz)
        | (go_at_call 10; refine (sync_nilD _ _).mono ?_; rintro e wz ⟨rfl, hbz⟩; have HBX := Lib.hid (HBX.out.trans (hbz.mono HBX.out.size)); clear hbz)
        | (go_at_call 18; refine (cut_nilD _ _ _).mono ?_; rintro e wz ⟨rfl, hbz⟩; have HBX := Lib.hid (HBX.out.trans (hbz.mono HBX.out.size)); clear hbz)
        | (go_at_call 20; refine (rename_nilD _ _ _).mono ?_; rintro e wz ⟨rfl, hbz⟩; have HBX := Lib.hid (HBX.out.trans (hbz.mono HBX.out.size)); clear hbz)
        | (go_at_call 19; refine (remove_nilD _ _).mono ?_; rintro e wz ⟨rfl, hbz⟩; have HBX := Lib.hid (HBX.out.trans (hbz.mono HBX.out.size)); clear hbz)
        | (go_at_call 9; refine (append_nilD _ _ _).mono ?_; rintro e wz ⟨rfl, hbz⟩; have HBX := Lib.hid (HBX.out.trans (hbz.mono HBX.out.size)); clear hbz))
      obtain ⟨wa, hwa⟩ : ∃ wa, wa = wz := ⟨_, rfl⟩
      rw [← hwa] at HBX ⊢
      clear hwa
      obtain ⟨n, hn⟩ : ∃ n : Nat, n = 8388609 := ⟨_, rfl⟩
      have hmk := run_make_bytes n (by omega) wa
      have hbz := bt_zeros n wa
      have hzsz := zerosB_size n
      obtain ⟨Z, hZ⟩ : ∃ Z, zerosB n = Z := ⟨_, rfl⟩
      rw [hZ] at hmk hbz hzsz
      obtain ⟨zs, hzs⟩ : ∃ zs, (ucells Z).toArray = zs := ⟨_, rfl⟩
      rw [hzs] at hmk hbz
      rw [hn] at hzsz
      obtain ⟨Y, hYs, hby⟩ := bt_tail hbz (by omega)
      rw [hn] at hmk hbz hby hYs
      simp only [Int.cast_ofNat_Int] at hmk
      have hYs : Y.size = 8388608 := hYs
      have hBA := (Below.refl wa.heap.size wa).alloc (Nat.le_refl _) (.cells zs 5)
      obtain ⟨g, hg⟩ : ∃ g, wa.heap.size = g := ⟨_, rfl⟩
      have hsl : ∀ W, (Instr.sliceAt 22 (.slice (some ⟨g, 0, none⟩) 8388609 8388609) (some (.int .i64 1)) none none).run Try.prog W = .ok (.slice (some ⟨g, 1, none⟩) 8388608 8388608) W := fun W => by
        obtain ⟨i0, hi0, -, hz1, -⟩ := parts infoU
        exact (run_sliceAt_slice W _ _ _ _ _ (by rw [show Try.prog.elem 22 = 5 by kernel_rfl]; exact Try.underlying22)).trans (run_from Try.underlying22 hi0 (some ⟨g, 0, none⟩) 8388609 8388609 1 1 hz1 (by decide) W)
      rw [hg] at hbz hby
      have HBZ := Lib.hid hbz; have HBY := Lib.hid hby; have HBA := Lib.hid hBA
      obtain ⟨wb, hwb⟩ : ∃ wb, wa.alloc (.cells zs 5) = wb := ⟨_, rfl⟩
      rw [hwb] at HBZ HBY HBA hmk
      rw [hg] at hmk
      have HB := Lib.hid (HBX.out.trans (HBA.out.mono HBX.out.size))
      clear hbz hby hBA hZ hzs hwb hg hn HBA HBX
      go_wp2_with fail
      refine (new_any 33554432 _).mono ?_
      rintro e wc ⟨rfl, hd, hb⟩
      have e1 : (⟨[], max 0 33554432, 0, -1, false⟩ : DiskD).append ⟨#[97]⟩ Z = (3, ⟨[], max 0 33554432, 0, -1, false⟩) := limit0 rfl (by omega)
      have e2 : (⟨[], max 0 33554432, 0, -1, false⟩ : DiskD).append ⟨#[97]⟩ Y = (0, ⟨[⟨⟨#[97]⟩, Y, -1⟩], max 0 33554432, 0 + 1, -1, false⟩) := nil_append rfl (by omega) (by omega)
      have e3 : (⟨[⟨⟨#[97]⟩, Y, -1⟩], max 0 33554432, 0 + 1, -1, false⟩ : DiskD).append ⟨#[97]⟩ ⟨#[1]⟩ = (3, ⟨[⟨⟨#[97]⟩, Y, -1⟩], max 0 33554432, 0 + 1, -1, false⟩) := limit1 rfl (by rw [hYs]; decide)
      have e4 : (⟨[⟨⟨#[97]⟩, Y, -1⟩], max 0 33554432, 0 + 1, -1, false⟩ : DiskD).append ⟨#[97]⟩ ByteArray.empty = (0, ⟨[⟨⟨#[97]⟩, Y ++ ByteArray.empty, -1⟩], max 0 33554432, 0 + 1 + 1, -1, false⟩) := one_append rfl (by rw [hYs]; decide) (by rw [hYs]; decide)
      have h1 := d_append hd hb.size (fit_small (by simp) (by simp) (by decide) (by decide) (by decide) (by decide)) (by simp [DiskD.used, usedL]) (HBZ.out.below hb).btr (by omega) e1
      have HC := Lib.hid h1; have HBB := Lib.hid hb
      clear hd hb h1 e1
      go_wp2_with fail
      refine HC.out.mono ?_
      rintro e wd ⟨rfl, v1, o1⟩
      have h2 := d_append o1.is (Nat.le_trans HBB.out.size o1.below.size) (fit_small (by simp) (by simp) (by decide) (by decide) (by decide) (by decide)) (by simp [DiskD.used, usedL]) (o1.bt _ _ (HBY.out.below HBB.out)).btr (by omega) e2
      have HC2 := Lib.hid h2; have HB1 := Lib.hid (HBB.out.trans o1.below)
      clear o1 h2 HC e2 HBZ HBY HBB
      go_wp2_with fail
      refine HC2.out.mono ?_
      rintro e we ⟨rfl, v2, o2⟩
      have hfit2 : Fit ⟨[⟨⟨#[97]⟩, Y, -1⟩], max 0 33554432, 0 + 1, -1, false⟩ := fit_small (by simp) (by simp; omega) (by decide) (by decide) (by decide) (by decide)
      have hu2 : (⟨[⟨⟨#[97]⟩, Y, -1⟩], max 0 33554432, 0 + 1, -1, false⟩ : DiskD).used ≤ 1000000000000 := by simp [DiskD.used, usedL]; omega
      have hb3 := (Below.refl we.heap.size we).alloc (Nat.le_refl _) (.cells (ucells ⟨#[1]⟩).toArray 5)
      have hB2 := HB1.out.trans o2.below
      have h3 := d_append (o2.is.below hb3 (Nat.le_refl _)) (Nat.le_trans hB2.size hb3.size) hfit2 hu2 (bt_lit we ⟨#[1]⟩ _ rfl).btr (by decide) e3
      have HC3 := Lib.hid h3; have HB2 := Lib.hid (hB2.trans (hb3.mono hB2.size)); have HF2 := Lib.hid hfit2; have HU2 := Lib.hid hu2
      clear o2 h3 HC2 e3 hfit2 hu2 hb3 hB2 HB1
      go_wp2_with fail
      refine HC3.out.mono ?_
      rintro e wf ⟨rfl, v3, o3⟩
      have hB3 := HB2.out.trans o3.below
      have h4 := d_append o3.is hB3.size HF2.out HU2.out (bt_nil wf).btr (by decide) e4
      have HC4 := Lib.hid h4; have HB3 := Lib.hid hB3
      clear o3 h4 HC3 e4 hB3 HB2 HF2 HU2
      go_wp2_with fail
      refine HC4.out.mono ?_
      rintro e wg ⟨rfl, v4, o4⟩
      have hB4 := HB3.out.trans o4.below
      have HBX := Lib.hid (HB.out.trans (hB4.mono HB.out.size))
      clear o4 HC4 hB4 HB3 HB hsl hmk hYs hzsz
      go_upto_region 15 with (fail)
      go_cut [1, 7] (fun s1 s7 wx => s1 = .string s ∧ Kn15 wg wx s T s7)
      case first =>
        refine wp_region_noPanic ?_
        refine wp_region_held_drew (S := fun _ => True) (by kernel_rfl) trivial (fun hHeld => ?_)
        refine wpAnyH_take (i := 2) (v := .agg #[.int .u8 2, .string ⟨#[97]⟩, .string ⟨#[]⟩, .slice none 0 0, .int .i64 0, .slice none 0 0]) rfl (by kernel_rfl) (by kernel_rfl) (by kernel_rfl) (fun _ _ _ h => h) (Or.inl ⟨by rfl, fun W _ => run_build_ rfl (by simp only [List.map_toArray, List.map_cons, List.map_nil]; exact hb_01 _ _) W⟩) (by assumption) ?_
        change wpAnyH _ _ _ _ _ _ _ (Act.put _ (some 106) _) _; simp only [Act.put, List.setIfInBounds_toArray, List.set_cons_zero, List.set_cons_succ]
        refine wpAnyH_take (i := 5) (v := .agg #[.int .u8 4, .string ⟨#[97]⟩, .string ⟨#[97]⟩, .slice none 0 0, .int .i64 0, .slice none 0 0]) rfl (by kernel_rfl) (by kernel_rfl) (by kernel_rfl) (fun _ _ _ h => h) (Or.inl ⟨by rfl, fun W _ => run_build_ rfl (by simp only [List.map_toArray, List.map_cons, List.map_nil]; exact hb_012 _ _ _) W⟩) (by assumption) ?_
        change wpAnyH _ _ _ _ _ _ _ (Act.put _ (some 109) _) _; simp only [Act.put, List.setIfInBounds_toArray, List.set_cons_zero, List.set_cons_succ]
        refine wpAnyH_take (i := 8) (v := .agg #[.int .u8 3, .string ⟨#[97]⟩, .string ⟨#[]⟩, .slice none 0 0, .int .i64 6, .slice none 0 0]) rfl (by kernel_rfl) (by kernel_rfl) (by kernel_rfl) (fun _ _ _ h => h) (Or.inl ⟨by rfl, fun W _ => run_build_ rfl (by simp only [List.map_toArray, List.map_cons, List.map_nil]; exact hb_014 _ _ _) W⟩) (by assumption) ?_
        change wpAnyH _ _ _ _ _ _ _ (Act.put _ (some 112) _) _; simp only [Act.put, List.setIfInBounds_toArray, List.set_cons_zero, List.set_cons_succ]
        refine wpAnyH_take (i := 9) (v := .agg #[.int .u8 3, .string ⟨#[97]⟩, .string ⟨#[]⟩, .slice none 0 0, .int .i64 4, .slice none 0 0]) rfl (by kernel_rfl) (by kernel_rfl) (by kernel_rfl) (fun _ _ _ h => h) (Or.inl ⟨by rfl, fun W _ => run_build_ rfl (by simp only [List.map_toArray, List.map_cons, List.map_nil]; exact hb_014 _ _ _) W⟩) (by assumption) ?_
        change wpAnyH _ _ _ _ _ _ _ (Act.put _ (some 113) _) _; simp only [Act.put, List.setIfInBounds_toArray, List.set_cons_zero, List.set_cons_succ]
        refine wpAnyH_take (i := 12) (v := .agg #[.int .u8 4, .string ⟨#[98]⟩, .string ⟨#[99]⟩, .slice none 0 0, .int .i64 0, .slice none 0 0]) rfl (by kernel_rfl) (by kernel_rfl) (by kernel_rfl) (fun _ _ _ h => h) (Or.inl ⟨by rfl, fun W _ => run_build_ rfl (by simp only [List.map_toArray, List.map_cons, List.map_nil]; exact hb_012 _ _ _) W⟩) (by assumption) ?_
        change wpAnyH _ _ _ _ _ _ _ (Act.put _ (some 116) _) _; simp only [Act.put, List.setIfInBounds_toArray, List.set_cons_zero, List.set_cons_succ]
        refine wpAnyH_take (i := 13) (v := ?v13) rfl (by kernel_rfl) (by kernel_rfl) (by kernel_rfl) (fun _ _ _ h => h) (Or.inl ⟨by rfl, ?y13⟩) (by assumption) ?r13
        case y13 => (intro w hSw; go_simp; try with_reducible rfl)
        change wpAnyH _ _ _ _ _ _ _ (Act.put _ (some 117) _) _; simp only [Act.put, List.setIfInBounds_toArray, List.set_cons_zero, List.set_cons_succ]
        refine wpAnyH_take (i := 14) (v := .agg #[.int .u8 0, .string s, .string ⟨#[]⟩, .slice none 0 0, .int .i64 0, .slice none 0 0]) rfl (by kernel_rfl) (by kernel_rfl) (by kernel_rfl) (fun _ _ _ h => h) (Or.inl ⟨by rfl, fun W _ => run_build_ rfl (by simp only [List.map_toArray, List.map_cons, List.map_nil]; exact hb_01 _ _) W⟩) (by assumption) ?_
        change wpAnyH _ _ _ _ _ _ _ (Act.put _ (some 118) _) _; simp only [Act.put, List.setIfInBounds_toArray, List.set_cons_zero, List.set_cons_succ]
        refine wpAnyH_take (i := 15) (v := ?v15) rfl (by kernel_rfl) (by kernel_rfl) (by kernel_rfl) (fun _ _ _ h => h) (Or.inl ⟨by rfl, ?y15⟩) (by assumption) ?r15
        case y15 => (intro w hSw; go_simp; try with_reducible rfl)
        change wpAnyH _ _ _ _ _ _ _ (Act.put _ (some 119) _) _; simp only [Act.put, List.setIfInBounds_toArray, List.set_cons_zero, List.set_cons_succ]
        refine wpAnyH_take (i := 16) (v := ?v16) rfl (by kernel_rfl) (by kernel_rfl) (by kernel_rfl) (fun _ _ _ h => h) (Or.inl ⟨by rfl, ?y16⟩) (by assumption) ?r16
        case y16 => (intro w hSw; go_simp; try with_reducible rfl)
        change wpAnyH _ _ _ _ _ _ _ (Act.put _ (some 120) _) _; simp only [Act.put, List.setIfInBounds_toArray, List.set_cons_zero, List.set_cons_succ]
        refine wpAnyH_take (i := 17) (v := .agg #[.int .u8 0, .string T, .string ⟨#[]⟩, .slice none 0 0, .int .i64 0, .slice none 0 0]) rfl (by kernel_rfl) (by kernel_rfl) (by kernel_rfl) (fun _ _ _ h => h) (Or.inl ⟨by rfl, fun W _ => run_build_ rfl (by simp only [List.map_toArray, List.map_cons, List.map_nil]; exact hb_01 _ _) W⟩) (by assumption) ?_
        change wpAnyH _ _ _ _ _ _ _ (Act.put _ (some 121) _) _; simp only [Act.put, List.setIfInBounds_toArray, List.set_cons_zero, List.set_cons_succ]
        refine wpAnyH_take (i := 18) (v := ?v18) rfl (by kernel_rfl) (by kernel_rfl) (by kernel_rfl) (fun _ _ _ h => h) (Or.inl ⟨by rfl, ?y18⟩) (by assumption) ?r18
        case y18 => (intro w hSw; go_simp; try with_reducible rfl)
        change wpAnyH _ _ _ _ _ _ _ (Act.put _ (some 122) _) _; simp only [Act.put, List.setIfInBounds_toArray, List.set_cons_zero, List.set_cons_succ]
        refine wpAnyH_take (i := 19) (v := ?v19) rfl (by kernel_rfl) (by kernel_rfl) (by kernel_rfl) (fun _ _ _ h => h) (Or.inl ⟨by rfl, ?y19⟩) (by assumption) ?r19
        case y19 => (intro w hSw; go_simp; try with_reducible rfl)
        change wpAnyH _ _ _ _ _ _ _ (Act.put _ (some 123) _) _; simp only [Act.put, List.setIfInBounds_toArray, List.set_cons_zero, List.set_cons_succ]
        refine wpAnyH_take (i := 20) (v := ?v20) rfl (by kernel_rfl) (by kernel_rfl) (by kernel_rfl) (fun _ _ _ h => h) (Or.inl ⟨by rfl, ?y20⟩) (by assumption) ?r20
        case y20 => (intro w hSw; go_simp; try with_reducible rfl)
        change wpAnyH _ _ _ _ _ _ _ (Act.put _ (some 124) _) _; simp only [Act.put, List.setIfInBounds_toArray, List.set_cons_zero, List.set_cons_succ]
        refine wpAnyH_take (i := 21) (v := .agg #[.int .u8 4, .string T, .string s, .slice none 0 0, .int .i64 0, .slice none 0 0]) rfl (by kernel_rfl) (by kernel_rfl) (by kernel_rfl) (fun _ _ _ h => h) (Or.inl ⟨by rfl, fun W _ => run_build_ rfl (by simp only [List.map_toArray, List.map_cons, List.map_nil]; exact hb_012 _ _ _) W⟩) (by assumption) ?_
        change wpAnyH _ _ _ _ _ _ _ (Act.put _ (some 125) _) _; simp only [Act.put, List.setIfInBounds_toArray, List.set_cons_zero, List.set_cons_succ]
        refine wpAnyH_take (i := 22) (v := .agg #[.int .u8 4, .string ⟨#[120]⟩, .string ⟨#[]⟩, .slice none 0 0, .int .i64 0, .slice none 0 0]) rfl (by kernel_rfl) (by kernel_rfl) (by kernel_rfl) (fun _ _ _ h => h) (Or.inl ⟨by rfl, fun W _ => run_build_ rfl (by simp only [List.map_toArray, List.map_cons, List.map_nil]; exact hb_012 _ _ _) W⟩) (by assumption) ?_
        change wpAnyH _ _ _ _ _ _ _ (Act.put _ (some 126) _) _; simp only [Act.put, List.setIfInBounds_toArray, List.set_cons_zero, List.set_cons_succ]
        refine wpAnyH_take (i := 23) (v := .agg #[.int .u8 5, .string ⟨#[120]⟩, .string ⟨#[]⟩, .slice none 0 0, .int .i64 0, .slice none 0 0]) rfl (by kernel_rfl) (by kernel_rfl) (by kernel_rfl) (fun _ _ _ h => h) (Or.inl ⟨by rfl, fun W _ => run_build_ rfl (by simp only [List.map_toArray, List.map_cons, List.map_nil]; exact hb_01 _ _) W⟩) (by assumption) ?_
        change wpAnyH _ _ _ _ _ _ _ (Act.put _ (some 127) _) _; simp only [Act.put, List.setIfInBounds_toArray, List.set_cons_zero, List.set_cons_succ]
        refine wpAnyH_take (i := 24) (v := .agg #[.int .u8 9, .string ⟨#[99]⟩, .string ⟨#[]⟩, .slice none 0 0, .int .i64 0, .slice none 0 0]) rfl (by kernel_rfl) (by kernel_rfl) (by kernel_rfl) (fun _ _ _ h => h) (Or.inl ⟨by rfl, fun W _ => run_build_ rfl (by simp only [List.map_toArray, List.map_cons, List.map_nil]; exact hb_01 _ _) W⟩) (by assumption) ?_
        change wpAnyH _ _ _ _ _ _ _ (Act.put _ (some 128) _) _; simp only [Act.put, List.setIfInBounds_toArray, List.set_cons_zero, List.set_cons_succ]
        refine wpAnyH_take (i := 25) (v := .agg #[.int .u8 0, .string ⟨#[100]⟩, .string ⟨#[]⟩, .slice none 0 0, .int .i64 0, .slice none 0 0]) rfl (by kernel_rfl) (by kernel_rfl) (by kernel_rfl) (fun _ _ _ h => h) (Or.inl ⟨by rfl, fun W _ => run_build_ rfl (by simp only [List.map_toArray, List.map_cons, List.map_nil]; exact hb_01 _ _) W⟩) (by assumption) ?_
        change wpAnyH _ _ _ _ _ _ _ (Act.put _ (some 129) _) _; simp only [Act.put, List.setIfInBounds_toArray, List.set_cons_zero, List.set_cons_succ]
        refine wpAnyH_take (i := 28) (v := .agg #[.int .u8 5, .string ⟨#[99]⟩, .string ⟨#[]⟩, .slice none 0 0, .int .i64 0, .slice none 0 0]) rfl (by kernel_rfl) (by kernel_rfl) (by kernel_rfl) (fun _ _ _ h => h) (Or.inl ⟨by rfl, fun W _ => run_build_ rfl (by simp only [List.map_toArray, List.map_cons, List.map_nil]; exact hb_01 _ _) W⟩) (by assumption) ?_
        change wpAnyH _ _ _ _ _ _ _ (Act.put _ (some 132) _) _; simp only [Act.put, List.setIfInBounds_toArray, List.set_cons_zero, List.set_cons_succ]
        refine wpAnyH_abs fun a0 ha0 => ?_
        have hsz : a0.tmps.size = 226 := by rw [ha0]; rfl
        refine wpAnyH_fuel (wpAnyH_news (P := Try.prog) wg.heap.size [(0, 104), (3, 107), (6, 110), (10, 114), (26, 130), (1, 105), (4, 108), (7, 111), (11, 115), (27, 131)] G15 1 2 (by kernel_rfl) (Nat.le_refl _) (fun d hd => ?_) (fun _ _ => trivial) G15_below ?_ ?_) rfl
        · simp only [List.map_cons, List.map_nil, List.mem_cons, List.not_mem_nil, or_false] at hd
          omega
        · intro n
          match n with
          | 0 =>
            intro k o vs w2 hk ho hvs hb hdep Kt hKt
            obtain rfl := Option.some.inj hk
            obtain rfl := Option.some.inj ho
            refine wpOp_flat rfl rfl 22 5 2 _ rfl 104 rfl .u8 [1, 2] Try.underlying22 infoU1 infoU2 rfl (by decide) (by decide) rfl ?_
            refine hKt _ _ ((Below.refl _ _).alloc (Nat.le_refl _) _) ?_
            rw [show ([1, 2].map (Value.int .u8)) = ucells ⟨#[1, 2]⟩ from rfl]
            exact ⟨_, _, rfl, (bt_lit _ ⟨#[1, 2]⟩ _ rfl).btr⟩
          | 1 =>
            intro k o vs w2 hk ho hvs hb hdep Kt hKt
            obtain rfl := Option.some.inj hk
            obtain rfl := Option.some.inj ho
            refine wpOp_flat rfl rfl 22 5 1 _ rfl 107 rfl .u8 [3] Try.underlying22 infoU1 infoU2 rfl (by decide) (by decide) rfl ?_
            refine hKt _ _ ((Below.refl _ _).alloc (Nat.le_refl _) _) ?_
            rw [show ([3].map (Value.int .u8)) = ucells ⟨#[3]⟩ from rfl]
            exact ⟨_, _, rfl, (bt_lit _ ⟨#[3]⟩ _ rfl).btr⟩
          | 2 =>
            intro k o vs w2 hk ho hvs hb hdep Kt hKt
            obtain rfl := Option.some.inj hk
            obtain rfl := Option.some.inj ho
            refine wpOp_flat rfl rfl 22 5 3 _ rfl 110 rfl .u8 [4, 5, 6] Try.underlying22 infoU1 infoU2 rfl (by decide) (by decide) rfl ?_
            refine hKt _ _ ((Below.refl _ _).alloc (Nat.le_refl _) _) ?_
            rw [show ([4, 5, 6].map (Value.int .u8)) = ucells ⟨#[4, 5, 6]⟩ from rfl]
            exact ⟨_, _, rfl, (bt_lit _ ⟨#[4, 5, 6]⟩ _ rfl).btr⟩
          | 3 =>
            intro k o vs w2 hk ho hvs hb hdep Kt hKt
            obtain rfl := Option.some.inj hk
            obtain rfl := Option.some.inj ho
            refine wpOp_flat rfl rfl 22 5 1 _ rfl 114 rfl .u8 [7] Try.underlying22 infoU1 infoU2 rfl (by decide) (by decide) rfl ?_
            refine hKt _ _ ((Below.refl _ _).alloc (Nat.le_refl _) _) ?_
            rw [show ([7].map (Value.int .u8)) = ucells ⟨#[7]⟩ from rfl]
            exact ⟨_, _, rfl, (bt_lit _ ⟨#[7]⟩ _ rfl).btr⟩
          | 4 =>
            intro k o vs w2 hk ho hvs hb hdep Kt hKt
            obtain rfl := Option.some.inj hk
            obtain rfl := Option.some.inj ho
            refine wpOp_flat rfl rfl 22 5 2 _ rfl 130 rfl .u8 [8, 9] Try.underlying22 infoU1 infoU2 rfl (by decide) (by decide) rfl ?_
            refine hKt _ _ ((Below.refl _ _).alloc (Nat.le_refl _) _) ?_
            rw [show ([8, 9].map (Value.int .u8)) = ucells ⟨#[8, 9]⟩ from rfl]
            exact ⟨_, _, rfl, (bt_lit _ ⟨#[8, 9]⟩ _ rfl).btr⟩
          | 5 =>
            intro k o vs w2 hk ho hvs hb hdep Kt hKt
            obtain rfl := Option.some.inj hk
            obtain rfl := Option.some.inj ho
            obtain ⟨A9, c9, hv9, hbt9⟩ := hdep 0 (0, 104) rfl ⟨⟨0, .data⟩, by simp, rfl, rfl⟩
            have hev := puts_eval (a := a0) (n := 0) (d := 104) (ds := [104, 107, 110, 114, 130, 105, 108, 111, 115, 131]) (vs := vs) (by decide) hvs rfl (by omega)
            refine wpOp_build rfl rfl 50 _ rfl 105 rfl #[.int .u8 0, .string ⟨#[97]⟩, .string ⟨#[]⟩, .slice A9 (ByteArray.size ⟨#[1, 2]⟩) c9, .int .i64 0, .slice none 0 0] ?_ ?_
            · simp only [List.map_toArray, List.map_cons, List.map_nil] at hev ⊢
              rw [hev, hv9]
              exact hb_013 _ _ _ _ _
            · exact hKt _ _ (Below.refl _ _) ⟨_, ⟨A9, c9, rfl, hbt9⟩, rfl⟩
          | 6 =>
            intro k o vs w2 hk ho hvs hb hdep Kt hKt
            obtain rfl := Option.some.inj hk
            obtain rfl := Option.some.inj ho
            obtain ⟨A9, c9, hv9, hbt9⟩ := hdep 1 (3, 107) rfl ⟨⟨3, .data⟩, by simp, rfl, rfl⟩
            have hev := puts_eval (a := a0) (n := 1) (d := 107) (ds := [104, 107, 110, 114, 130, 105, 108, 111, 115, 131]) (vs := vs) (by decide) hvs rfl (by omega)
            refine wpOp_build rfl rfl 50 _ rfl 108 rfl #[.int .u8 1, .string ⟨#[98]⟩, .string ⟨#[]⟩, .slice A9 (ByteArray.size ⟨#[3]⟩) c9, .int .i64 0, .slice none 0 0] ?_ ?_
            · simp only [List.map_toArray, List.map_cons, List.map_nil] at hev ⊢
              rw [hev, hv9]
              exact hb_013 _ _ _ _ _
            · exact hKt _ _ (Below.refl _ _) ⟨_, ⟨A9, c9, rfl, hbt9⟩, rfl⟩
          | 7 =>
            intro k o vs w2 hk ho hvs hb hdep Kt hKt
            obtain rfl := Option.some.inj hk
            obtain rfl := Option.some.inj ho
            obtain ⟨A9, c9, hv9, hbt9⟩ := hdep 2 (6, 110) rfl ⟨⟨6, .data⟩, by simp, rfl, rfl⟩
            have hev := puts_eval (a := a0) (n := 2) (d := 110) (ds := [104, 107, 110, 114, 130, 105, 108, 111, 115, 131]) (vs := vs) (by decide) hvs rfl (by omega)
            refine wpOp_build rfl rfl 50 _ rfl 111 rfl #[.int .u8 0, .string ⟨#[97]⟩, .string ⟨#[]⟩, .slice A9 (ByteArray.size ⟨#[4, 5, 6]⟩) c9, .int .i64 0, .slice none 0 0] ?_ ?_
            · simp only [List.map_toArray, List.map_cons, List.map_nil] at hev ⊢
              rw [hev, hv9]
              exact hb_013 _ _ _ _ _
            · exact hKt _ _ (Below.refl _ _) ⟨_, ⟨A9, c9, rfl, hbt9⟩, rfl⟩
          | 8 =>
            intro k o vs w2 hk ho hvs hb hdep Kt hKt
            obtain rfl := Option.some.inj hk
            obtain rfl := Option.some.inj ho
            obtain ⟨A9, c9, hv9, hbt9⟩ := hdep 3 (10, 114) rfl ⟨⟨10, .data⟩, by simp, rfl, rfl⟩
            have hev := puts_eval (a := a0) (n := 3) (d := 114) (ds := [104, 107, 110, 114, 130, 105, 108, 111, 115, 131]) (vs := vs) (by decide) hvs rfl (by omega)
            refine wpOp_build rfl rfl 50 _ rfl 115 rfl #[.int .u8 0, .string ⟨#[97]⟩, .string ⟨#[]⟩, .slice A9 (ByteArray.size ⟨#[7]⟩) c9, .int .i64 0, .slice none 0 0] ?_ ?_
            · simp only [List.map_toArray, List.map_cons, List.map_nil] at hev ⊢
              rw [hev, hv9]
              exact hb_013 _ _ _ _ _
            · exact hKt _ _ (Below.refl _ _) ⟨_, ⟨A9, c9, rfl, hbt9⟩, rfl⟩
          | 9 =>
            intro k o vs w2 hk ho hvs hb hdep Kt hKt
            obtain rfl := Option.some.inj hk
            obtain rfl := Option.some.inj ho
            obtain ⟨A9, c9, hv9, hbt9⟩ := hdep 4 (26, 130) rfl ⟨⟨26, .data⟩, by simp, rfl, rfl⟩
            have hev := puts_eval (a := a0) (n := 4) (d := 130) (ds := [104, 107, 110, 114, 130, 105, 108, 111, 115, 131]) (vs := vs) (by decide) hvs rfl (by omega)
            refine wpOp_build rfl rfl 50 _ rfl 131 rfl #[.int .u8 1, .string ⟨#[101]⟩, .string ⟨#[]⟩, .slice A9 (ByteArray.size ⟨#[8, 9]⟩) c9, .int .i64 0, .slice none 0 0] ?_ ?_
            · simp only [List.map_toArray, List.map_cons, List.map_nil] at hev ⊢
              rw [hev, hv9]
              exact hb_013 _ _ _ _ _
            · exact hKt _ _ (Below.refl _ _) ⟨_, ⟨A9, c9, rfl, hbt9⟩, rfl⟩
          | n + 10 => exact fun k o vs w' hk => by cases hk
        · intro vs wh hvs hbh _ hg
          have hvs : vs.length = 10 := hvs
          obtain ⟨v0_, vs, rfl⟩ := List.exists_cons_of_length_eq_add_one hvs
          have hvs : vs.length = 9 := by simpa using hvs
          obtain ⟨v1_, vs, rfl⟩ := List.exists_cons_of_length_eq_add_one hvs
          have hvs : vs.length = 8 := by simpa using hvs
          obtain ⟨v2_, vs, rfl⟩ := List.exists_cons_of_length_eq_add_one hvs
          have hvs : vs.length = 7 := by simpa using hvs
          obtain ⟨v3_, vs, rfl⟩ := List.exists_cons_of_length_eq_add_one hvs
          have hvs : vs.length = 6 := by simpa using hvs
          obtain ⟨v4_, vs, rfl⟩ := List.exists_cons_of_length_eq_add_one hvs
          have hvs : vs.length = 5 := by simpa using hvs
          obtain ⟨v5_, vs, rfl⟩ := List.exists_cons_of_length_eq_add_one hvs
          have hvs : vs.length = 4 := by simpa using hvs
          obtain ⟨v6_, vs, rfl⟩ := List.exists_cons_of_length_eq_add_one hvs
          have hvs : vs.length = 3 := by simpa using hvs
          obtain ⟨v7_, vs, rfl⟩ := List.exists_cons_of_length_eq_add_one hvs
          have hvs : vs.length = 2 := by simpa using hvs
          obtain ⟨v8_, vs, rfl⟩ := List.exists_cons_of_length_eq_add_one hvs
          have hvs : vs.length = 1 := by simpa using hvs
          obtain ⟨v9_, vs, rfl⟩ := List.exists_cons_of_length_eq_add_one hvs
          have hvs : vs.length = 0 := by simpa using hvs
          have e0 := List.eq_nil_of_length_eq_zero hvs
          subst e0
          obtain ⟨sv5, hs5, e5⟩ := (show ∃ sv, BtV wh sv ⟨#[1, 2]⟩ ∧ v5_ = .agg #[.int .u8 0, .string ⟨#[97]⟩, .string ⟨#[]⟩, sv, .int .i64 0, .slice none 0 0] from hg 5 (by decide))
          subst e5
          obtain ⟨sv6, hs6, e6⟩ := (show ∃ sv, BtV wh sv ⟨#[3]⟩ ∧ v6_ = .agg #[.int .u8 1, .string ⟨#[98]⟩, .string ⟨#[]⟩, sv, .int .i64 0, .slice none 0 0] from hg 6 (by decide))
          subst e6
          obtain ⟨sv7, hs7, e7⟩ := (show ∃ sv, BtV wh sv ⟨#[4, 5, 6]⟩ ∧ v7_ = .agg #[.int .u8 0, .string ⟨#[97]⟩, .string ⟨#[]⟩, sv, .int .i64 0, .slice none 0 0] from hg 7 (by decide))
          subst e7
          obtain ⟨sv8, hs8, e8⟩ := (show ∃ sv, BtV wh sv ⟨#[7]⟩ ∧ v8_ = .agg #[.int .u8 0, .string ⟨#[97]⟩, .string ⟨#[]⟩, sv, .int .i64 0, .slice none 0 0] from hg 8 (by decide))
          subst e8
          obtain ⟨sv9, hs9, e9⟩ := (show ∃ sv, BtV wh sv ⟨#[8, 9]⟩ ∧ v9_ = .agg #[.int .u8 1, .string ⟨#[101]⟩, .string ⟨#[]⟩, sv, .int .i64 0, .slice none 0 0] from hg 9 (by decide))
          subst e9
          rw [ha0]
          simp only [List.map_cons, List.map_nil, List.zip_cons_cons, List.zip_nil_left, putsA, Act.put, List.setIfInBounds_toArray, List.set_cons_zero, List.set_cons_succ]
          refine wpAnyH_ready (rs := [29]) (by kernel_rfl) (by simp) ?_
          refine AllReadyH.cons rfl (fun K hK => ?_) AllReadyH.nil
          refine Eq.mpr (if_pos (by rfl)) ?_
          refine wp_rowsN 51 50 _ 6 ((knA s T sv5 sv6 sv7 sv8 sv9).map fun x => Value.agg (cvCellsT x).toArray) rfl (fun i => ([105, 106, 108, 109, 111, 112, 113, 115, 116, 118, 121, 125, 126, 127, 128, 129, 131, 132] : List Nat).getD i 0) Try.underlying51 infoCallT infoCallX (by decide) (by show (0 : Nat) < 18; decide) (by show (18 * 6 : Nat) ≤ 2 ^ 24; decide) rfl (fun v hv => by obtain ⟨m, _, rfl⟩ := List.mem_map.1 hv; rfl) (fun i hi => by
            match i, hi with
            | 0, _ => rfl
            | 1, _ => rfl
            | 2, _ => rfl
            | 3, _ => rfl
            | 4, _ => rfl
            | 5, _ => rfl
            | 6, _ => rfl
            | 7, _ => rfl
            | 8, _ => rfl
            | 9, _ => rfl
            | 10, _ => rfl
            | 11, _ => rfl
            | 12, _ => rfl
            | 13, _ => rfl
            | 14, _ => rfl
            | 15, _ => rfl
            | 16, _ => rfl
            | 17, _ => rfl
            | n + 18, h => exact absurd h (by rw [List.length_map, show (knA s T sv5 sv6 sv7 sv8 sv9).length = 18 from rfl]; omega)) ?_
          rw [flatT_map, show ((knA s T sv5 sv6 sv7 sv8 sv9).map fun x => Value.agg (cvCellsT x).toArray).length = 18 from rfl]
          change K (Act.put _ (some 133) _) _
          simp only [Act.put, List.setIfInBounds_toArray, List.set_cons_zero, List.set_cons_succ]
          refine hK.out _ _ trivial (fun _ => ?_)
          clear hK K
          refine wpAnyH_take (i := 30) (v := ?v30) rfl (by kernel_rfl) (by kernel_rfl) (by kernel_rfl) (fun _ _ _ h => h) (Or.inl ⟨by rfl, ?y30⟩) (by assumption) ?r30
          case y30 => (intro w hSw; go_simp; try with_reducible rfl)
          change wpAnyH _ _ _ _ _ _ _ (Act.put _ (some 7) _) _; simp only [Act.put, List.setIfInBounds_toArray, List.set_cons_zero, List.set_cons_succ]
          refine wpAnyH_done (by kernel_rfl) ?_ _
          refine NoPanic.normal ?_
          go_wp2_with fail
          go_meet
          have hba := (Below.refl wh.heap.size wh).alloc (Nat.le_refl _) (.cells ((knA s T sv5 sv6 sv7 sv8 sv9).flatMap cvCellsT).toArray 50)
          exact ⟨rfl, _, sv5, sv6, sv7, sv8, sv9, rfl, Blk.new wh _ _, ⟨hs5.below hba, hs6.below hba, hs7.below hba, hs8.below hba, hs9.below hba⟩, (show Below wg.heap.size wg wg.drew from (Below.refl _ _).drew).trans (hbh.trans (hba.mono hbh.size))⟩
      case rest =>
      obtain ⟨rfl, gA, sv1, sv2, sv3, sv4, sv5, rfl, hblk, ⟨hv1, hv2, hv3, hv4, hv5⟩, hbA⟩ := hcut
      obtain ⟨wk, hwk⟩ : ∃ wk, wk = wc := ⟨_, rfl⟩
      subst hwk
      have HBL := Lib.hid hblk; have HV := Lib.hid (And.intro hv1 (And.intro hv2 (And.intro hv3 (And.intro hv4 hv5)))); have HBW := Lib.hid (HBX.out.trans (hbA.mono HBX.out.size))
      clear hblk hv1 hv2 hv3 hv4 hv5 hbA HBX hslS
      as_aux_lemma =>
      go_upto_region 16 with (fail)
      go_step
      refine wpList_buildTo rfl 50 _ rfl (some 134) rfl #[.int .u8 6, .string ⟨#[]⟩, .string ⟨#[]⟩, .slice none 0 0, .int .i64 1, .slice none 0 0] (by simp only [List.map_toArray, List.map_cons, List.map_nil]; exact hb_04 _ _) ?_
      try simp only [Act.put, List.setIfInBounds_toArray, List.set_cons_zero, List.set_cons_succ]
      refine wpList_flatN rfl 22 5 1 _ rfl .u8 [1] 135 rfl Try.underlying22 infoU1 infoU2 rfl (by decide) (by decide) rfl ?_
      intro wl1 gl1 hbl1 hkl1
      rw [show ([1].map (Value.int .u8)) = ucells ⟨#[1]⟩ from rfl] at hkl1
      have hvl1 : BtV wl1 (.slice (some ⟨gl1, 0, none⟩) 1 1) ⟨#[1]⟩ := ⟨_, _, rfl, (bt_blk hkl1).btr⟩
      try simp only [Act.put, List.setIfInBounds_toArray, List.set_cons_zero, List.set_cons_succ]
      refine wpList_buildTo rfl 50 _ rfl (some 136) rfl #[.int .u8 0, .string ⟨#[102]⟩, .string ⟨#[]⟩, .slice (some ⟨gl1, 0, none⟩) 1 1, .int .i64 0, .slice none 0 0] (by simp only [List.map_toArray, List.map_cons, List.map_nil]; exact hb_013 _ _ _ _ _) ?_
      try simp only [Act.put, List.setIfInBounds_toArray, List.set_cons_zero, List.set_cons_succ]
      refine wpList_flatN rfl 22 5 1 _ rfl .u8 [2] 137 rfl Try.underlying22 infoU1 infoU2 rfl (by decide) (by decide) rfl ?_
      intro wl2 gl2 hbl2 hkl2
      rw [show ([2].map (Value.int .u8)) = ucells ⟨#[2]⟩ from rfl] at hkl2
      have hvl2 : BtV wl2 (.slice (some ⟨gl2, 0, none⟩) 1 1) ⟨#[2]⟩ := ⟨_, _, rfl, (bt_blk hkl2).btr⟩
      try simp only [Act.put, List.setIfInBounds_toArray, List.set_cons_zero, List.set_cons_succ]
      refine wpList_buildTo rfl 50 _ rfl (some 138) rfl #[.int .u8 1, .string ⟨#[102]⟩, .string ⟨#[]⟩, .slice (some ⟨gl2, 0, none⟩) 1 1, .int .i64 0, .slice none 0 0] (by simp only [List.map_toArray, List.map_cons, List.map_nil]; exact hb_013 _ _ _ _ _) ?_
      try simp only [Act.put, List.setIfInBounds_toArray, List.set_cons_zero, List.set_cons_succ]
      refine wpList_buildTo rfl 50 _ rfl (some 139) rfl #[.int .u8 2, .string ⟨#[102]⟩, .string ⟨#[]⟩, .slice none 0 0, .int .i64 0, .slice none 0 0] (by simp only [List.map_toArray, List.map_cons, List.map_nil]; exact hb_01 _ _) ?_
      try simp only [Act.put, List.setIfInBounds_toArray, List.set_cons_zero, List.set_cons_succ]
      refine wpList_flatN rfl 31 3 4 _ rfl .i64 [-1, 7, 4611686018427387904, -9223372036854775808] 140 rfl Try.underlying31 infoI1 infoI2 rfl (by decide) (by decide) rfl ?_
      intro wl3 gl3 hbl3 hkl3
      have hvl3 : RdV wl3 (.slice (some ⟨gl3, 0, none⟩) 4 4) [-1, 7, 4611686018427387904, -9223372036854775808] := ⟨_, _, rfl, rd_blk hkl3⟩
      try simp only [Act.put, List.setIfInBounds_toArray, List.set_cons_zero, List.set_cons_succ]
      refine wpList_buildTo rfl 50 _ rfl (some 141) rfl #[.int .u8 8, .string ⟨#[]⟩, .string ⟨#[]⟩, .slice none 0 0, .int .i64 0, .slice (some ⟨gl3, 0, none⟩) 4 4] (by simp only [List.map_toArray, List.map_cons, List.map_nil]; exact hb_05 _ _ _ _) ?_
      try simp only [Act.put, List.setIfInBounds_toArray, List.set_cons_zero, List.set_cons_succ]
      refine wpList_flatN rfl 31 3 1 _ rfl .i64 [9] 142 rfl Try.underlying31 infoI1 infoI2 rfl (by decide) (by decide) rfl ?_
      intro wl4 gl4 hbl4 hkl4
      have hvl4 : RdV wl4 (.slice (some ⟨gl4, 0, none⟩) 1 1) [9] := ⟨_, _, rfl, rd_blk hkl4⟩
      try simp only [Act.put, List.setIfInBounds_toArray, List.set_cons_zero, List.set_cons_succ]
      refine wpList_buildTo rfl 50 _ rfl (some 143) rfl #[.int .u8 8, .string ⟨#[]⟩, .string ⟨#[]⟩, .slice none 0 0, .int .i64 0, .slice (some ⟨gl4, 0, none⟩) 1 1] (by simp only [List.map_toArray, List.map_cons, List.map_nil]; exact hb_05 _ _ _ _) ?_
      try simp only [Act.put, List.setIfInBounds_toArray, List.set_cons_zero, List.set_cons_succ]
      refine wpList_buildTo rfl 50 _ rfl (some 144) rfl #[.int .u8 6, .string ⟨#[]⟩, .string ⟨#[]⟩, .slice none 0 0, .int .i64 0, .slice none 0 0] (by simp only [List.map_toArray, List.map_cons, List.map_nil]; exact hb_0 _) ?_
      try simp only [Act.put, List.setIfInBounds_toArray, List.set_cons_zero, List.set_cons_succ]
      refine wpList_buildTo rfl 50 _ rfl (some 145) rfl #[.int .u8 6, .string ⟨#[]⟩, .string ⟨#[]⟩, .slice none 0 0, .int .i64 (-5), .slice none 0 0] (by simp only [List.map_toArray, List.map_cons, List.map_nil]; exact hb_04 _ _) ?_
      try simp only [Act.put, List.setIfInBounds_toArray, List.set_cons_zero, List.set_cons_succ]
      refine wpList_buildTo rfl 50 _ rfl (some 146) rfl #[.int .u8 2, .string ⟨#[102]⟩, .string ⟨#[]⟩, .slice none 0 0, .int .i64 0, .slice none 0 0] (by simp only [List.map_toArray, List.map_cons, List.map_nil]; exact hb_01 _ _) ?_
      try simp only [Act.put, List.setIfInBounds_toArray, List.set_cons_zero, List.set_cons_succ]
      refine wpList_buildTo rfl 50 _ rfl (some 147) rfl #[.int .u8 7, .string ⟨#[]⟩, .string ⟨#[]⟩, .slice none 0 0, .int .i64 0, .slice none 0 0] (by simp only [List.map_toArray, List.map_cons, List.map_nil]; exact hb_0 _) ?_
      try simp only [Act.put, List.setIfInBounds_toArray, List.set_cons_zero, List.set_cons_succ]
      refine wpList_buildTo rfl 50 _ rfl (some 148) rfl #[.int .u8 9, .string ⟨#[102]⟩, .string ⟨#[]⟩, .slice none 0 0, .int .i64 0, .slice none 0 0] (by simp only [List.map_toArray, List.map_cons, List.map_nil]; exact hb_01 _ _) ?_
      try simp only [Act.put, List.setIfInBounds_toArray, List.set_cons_zero, List.set_cons_succ]
      refine wpList_buildTo rfl 50 _ rfl (some 149) rfl #[.int .u8 8, .string ⟨#[]⟩, .string ⟨#[]⟩, .slice none 0 0, .int .i64 0, .slice none 0 0] (by simp only [List.map_toArray, List.map_cons, List.map_nil]; exact hb_0 _) ?_
      try simp only [Act.put, List.setIfInBounds_toArray, List.set_cons_zero, List.set_cons_succ]
      refine wpList_rowsN rfl 51 50 _ 6 ((knB (.slice (some ⟨gl1, 0, none⟩) 1 1) (.slice (some ⟨gl2, 0, none⟩) 1 1) (.slice (some ⟨gl3, 0, none⟩) 4 4) (.slice (some ⟨gl4, 0, none⟩) 1 1)).map fun x => Value.agg (cvCellsT x).toArray) rfl (fun i => ([134, 136, 138, 139, 141, 143, 144, 145, 146, 147, 148, 149] : List Nat).getD i 0) 150 rfl Try.underlying51 infoCallT infoCallX (by decide) (by show (0 : Nat) < 12; decide) (by show (12 * 6 : Nat) ≤ 2 ^ 24; decide) rfl (fun v hv => by obtain ⟨m, _, rfl⟩ := List.mem_map.1 hv; rfl) (fun i hi => by
        match i, hi with
        | 0, _ => rfl
        | 1, _ => rfl
        | 2, _ => rfl
        | 3, _ => rfl
        | 4, _ => rfl
        | 5, _ => rfl
        | 6, _ => rfl
        | 7, _ => rfl
        | 8, _ => rfl
        | 9, _ => rfl
        | 10, _ => rfl
        | 11, _ => rfl
        | n + 12, h => exact absurd h (by rw [List.length_map, show (knB (.slice (some ⟨gl1, 0, none⟩) 1 1) (.slice (some ⟨gl2, 0, none⟩) 1 1) (.slice (some ⟨gl3, 0, none⟩) 4 4) (.slice (some ⟨gl4, 0, none⟩) 1 1)).length = 12 from rfl]; omega)) ?_
      rw [flatT_map, show ((knB (.slice (some ⟨gl1, 0, none⟩) 1 1) (.slice (some ⟨gl2, 0, none⟩) 1 1) (.slice (some ⟨gl3, 0, none⟩) 4 4) (.slice (some ⟨gl4, 0, none⟩) 1 1)).map fun x => Value.agg (cvCellsT x).toArray).length = 12 from rfl]
      intro w16 gP hb16 hkP
      try simp only [Act.put, List.setIfInBounds_toArray, List.set_cons_zero, List.set_cons_succ]
      have hb12 := hbl1.trans (hbl2.mono hbl1.size)
      have hb13 := hb12.trans (hbl3.mono hb12.size)
      have hb14 := hb13.trans (hbl4.mono hb13.size)
      have hb15 := hb14.trans (hb16.mono hb14.size)
      have hb46 := hbl4.trans (hb16.mono hbl4.size)
      have hb36 := hbl3.trans (hb46.mono hbl3.size)
      have hb26 := hbl2.trans (hb36.mono hbl2.size)
      obtain ⟨u1, hu1⟩ : ∃ u1, u1 = Value.slice (some ⟨gl1, 0, none⟩) 1 1 := ⟨_, rfl⟩
      obtain ⟨u2, hu2⟩ : ∃ u2, u2 = Value.slice (some ⟨gl2, 0, none⟩) 1 1 := ⟨_, rfl⟩
      obtain ⟨k1, hk1⟩ : ∃ k1, k1 = Value.slice (some ⟨gl3, 0, none⟩) 4 4 := ⟨_, rfl⟩
      obtain ⟨k2, hk2⟩ : ∃ k2, k2 = Value.slice (some ⟨gl4, 0, none⟩) 1 1 := ⟨_, rfl⟩
      rw [← hu1] at hvl1 hkP
      rw [← hu2] at hvl2 hkP
      rw [← hk1] at hvl3 hkP
      rw [← hk2] at hvl4 hkP
      have hokB := knB_ok (hvl1.below hb26) (hvl2.below hb36) (hvl3.below hb46) (hvl4.below hb16)
      have HOKB := Lib.hid hokB; have HBLB := Lib.hid hkP; have HB16 := Lib.hid hb15
      clear hokB hkP hb15 hb14 hb13 hb12 hb46 hb36 hb26 hvl1 hvl2 hvl3 hvl4 hkl1 hkl2 hkl3 hkl4 hbl1 hbl2 hbl3 hbl4 hb16
      refine wpList_asN rfl _ rfl 8 rfl (.slice (some ⟨gP, 0, none⟩) 12 12) (by rfl) ?_
      try simp only [Act.put, List.setIfInBounds_toArray, List.set_cons_zero, List.set_cons_succ]
      go_upto_region 18 with (fail)
      go_step
      refine wpList_mvN rfl _ rfl 151 rfl (.slice none 0 0) (by rfl) ?_
      try simp only [Act.put, List.setIfInBounds_toArray, List.set_cons_zero, List.set_cons_succ]
      refine wpList_mvN rfl _ rfl 152 rfl (.slice (some ⟨gA, 0, none⟩) 18 18) (by rfl) ?_
      try simp only [Act.put, List.setIfInBounds_toArray, List.set_cons_zero, List.set_cons_succ]
      obtain ⟨i0, hi0, hz0, hz1, hz2⟩ := parts infoCT
      have hokA := knA_ok (s := s) (t := T) (HV.out.1.below HB16.out) (HV.out.2.1.below HB16.out) (HV.out.2.2.1.below HB16.out) (HV.out.2.2.2.1.below HB16.out) (HV.out.2.2.2.2.below HB16.out)
      have hblkA := HBL.out.below HB16.out HBL.out.lt
      have HOKA := Lib.hid hokA; have HBLA := Lib.hid hblkA
      clear hokA hblkA
      refine wpList_append_any _ rfl (.tmp 151) (.tmp 152) 51 rfl w16.heap.size 50 i0 _ 6 96 Try.underlying51 hi0 hz0 hz1 hz2 rfl (by decide) (.slice none 0 0) 0 [] (by rfl) (World.ownsRow_nil _ _ _ _) w16.heap.size (some ⟨gA, 0, none⟩) 18 18 ((knA s T sv1 sv2 sv3 sv4 sv5).flatMap cvCellsT) (by rfl) (reads_blk HBLA.out (by rw [flat6_len]; rfl)) (fun u hu => by obtain ⟨x, hx, hu⟩ := List.mem_flatMap.1 hu; exact (HOKA.out x hx).one u hu) (by unfold maxLen; omega) (by omega) (Nat.le_refl _) ?_
      intro vq wq ho1 hg1 ho2
      rw [Nat.zero_add, List.nil_append] at ho1
      obtain ⟨Aq, cq, rfl⟩ := own_shape ho1
      have hbq : Below w16.heap.size w16 wq := ⟨hg1.os, hg1.tape, hg1.output, hg1.size, fun k hk => hg1.block k hk (by simp [Value.ownBlock])⟩
      have HO1 := Lib.hid ho1; have HBQ := Lib.hid hbq
      clear ho1 hg1 ho2 hbq
      try simp only [Act.put, List.setIfInBounds_toArray, List.set_cons_zero, List.set_cons_succ]
      refine wpList_mvN rfl _ rfl 154 rfl (.slice (some ⟨gP, 0, none⟩) 12 12) (by rfl) ?_
      try simp only [Act.put, List.setIfInBounds_toArray, List.set_cons_zero, List.set_cons_succ]
      have hokB := fun x hx => (HOKB.out x hx).below HBQ.out
      have hblkB := HBLB.out.below HBQ.out HBLB.out.lt
      have HOKB2 := Lib.hid hokB; have HBLB2 := Lib.hid hblkB
      clear hokB hblkB
      refine wpList_append_any _ rfl (.tmp 153) (.tmp 154) 51 rfl w16.heap.size 50 i0 _ 6 96 Try.underlying51 hi0 hz0 hz1 hz2 rfl (by decide) (.slice Aq 18 cq) 18 ((knA s T sv1 sv2 sv3 sv4 sv5).flatMap cvCellsT) (by rfl) HO1.out wq.heap.size (some ⟨gP, 0, none⟩) 12 12 ((knB u1 u2 k1 k2).flatMap cvCellsT) (by rfl) (reads_blk HBLB2.out (by rw [flat6_len]; rfl)) (fun u hu => by obtain ⟨x, hx, hu⟩ := List.mem_flatMap.1 hu; exact (HOKB2.out x hx).one u hu) (by unfold maxLen; omega) (by omega) HBQ.out.size ?_
      intro vr wr2 ho1 hg1 ho2
      rw [show 18 + 12 = 30 from rfl, ← List.flatMap_append] at ho1
      obtain ⟨Ar, cr, rfl⟩ := own_shape ho1
      have hbr : Below w16.heap.size w16 wr2 := ⟨hg1.os.trans HBQ.out.os, hg1.tape.trans HBQ.out.tape, hg1.output.trans HBQ.out.output, Nat.le_trans HBQ.out.size hg1.size, fun k hk => (hg1.block k (Nat.lt_of_lt_of_le hk HBQ.out.size) (fun e => by have := (HO1.out.lt k e.symm).1; omega)).trans (HBQ.out.block k hk)⟩
      have hok30 : ∀ x ∈ knA s T sv1 sv2 sv3 sv4 sv5 ++ knB u1 u2 k1 k2, CvOkT wr2 x := fun x hx => by
        rcases List.mem_append.1 hx with h | h
        · exact (HOKA.out x h).below hbr
        · exact (HOKB.out x h).below hbr
      obtain ⟨gB, rfl, hcB⟩ := own_calls ho1 rfl (by decide) hok30
      have hcA : CallsT wr2 (some ⟨gA, 0, none⟩) ((knA s T sv1 sv2 sv3 sv4 sv5).map (·.1)) := callsT_of (Nat.lt_of_lt_of_le HBLA.out.lt hbr.size) (fun j hj => by
        have hk := HBLA.out.below hbr HBLA.out.lt
        rw [hk.cell, List.getElem?_toArray, Nat.zero_add]) (fun x h => (HOKA.out x h).below hbr)
      have hcap : 30 ≤ cr := by
        rcases ho1.2 with ⟨e, _⟩ | ⟨g', cap, cur, hv, _, _, hnc, _⟩
        · cases e
        · injection hv with _ _ e; omega
      have hlA := knA_few (s := s) (t := T) sv1 sv2 sv3 sv4 sv5 (by omega) (by omega)
      have hlB := knAB_few (s := s) (t := T) sv1 sv2 sv3 sv4 sv5 u1 u2 k1 k2 (by omega) (by omega)
      have hnA : ((knA s T sv1 sv2 sv3 sv4 sv5).map (·.1)).length = 18 := rfl
      have hnB : ((knA s T sv1 sv2 sv3 sv4 sv5 ++ knB u1 u2 k1 k2).map (·.1)).length = 30 := rfl
      obtain ⟨lA, hlAe⟩ : ∃ lA, (knA s T sv1 sv2 sv3 sv4 sv5).map (·.1) = lA := ⟨_, rfl⟩
      obtain ⟨lB, hlBe⟩ : ∃ lB, (knA s T sv1 sv2 sv3 sv4 sv5 ++ knB u1 u2 k1 k2).map (·.1) = lB := ⟨_, rfl⟩
      rw [hlAe] at hlA hnA hcA
      rw [hlBe] at hlB hnB hcB
      have HKS := Lib.hid (show KnS _ wr2 gA gB cr lA lB from ⟨hcA, hcB, HBW.out.trans ((HB16.out.mono HBW.out.size).trans (hbr.mono (Nat.le_trans HBW.out.size HB16.out.size)))⟩)
      have HLA := Lib.hid hlA; have HLB := Lib.hid hlB; have HNA := Lib.hid hnA; have HNB := Lib.hid hnB
      clear ho1 hg1 ho2 hbr hok30 hcB hcA hlA hlB hnA hnB hlAe hlBe HOKA HOKB HOKB2 HBLA HBLB HBLB2 HO1 HBQ HB16 HBL HV HBW hi0 hz0 hz1 hz2
      try simp only [Act.put, List.setIfInBounds_toArray, List.set_cons_zero, List.set_cons_succ]
      refine wpList_asN rfl _ rfl 9 rfl (.slice (some ⟨gB, 0, none⟩) 30 cr) (by rfl) ?_
      try simp only [Act.put, List.setIfInBounds_toArray, List.set_cons_zero, List.set_cons_succ]
      go_wp2
      go_loopg [10] 20 (fun gf vi wv => ∃ i : Nat, vi = .int .i64 i ∧ i + gf = 20 ∧ KnS _ wv gA gB cr lA lB)
      case atStart => exact ⟨0, rfl, by omega, HKS.out⟩
      case round =>
        clear HKS
        obtain ⟨i, rfl, hi, hks⟩ := hrel
        have HKS := Lib.hid hks
        clear hks
        cases gk with
        | zero =>
          obtain rfl : i = 20 := by omega
          clear hi
          as_aux_lemma =>
          go_upto_region 24 with (fail)
          go_step
          refine wpList_flatN rfl 22 5 1 _ rfl .u8 [1] 209 rfl Try.underlying22 infoU1 infoU2 rfl (by decide) (by decide) rfl ?_
          intro y1 g1 hb1 hk1
          try simp only [Act.put, List.setIfInBounds_toArray, List.set_cons_zero, List.set_cons_succ]
          refine wpList_flatN rfl 22 5 1 _ rfl .u8 [2] 210 rfl Try.underlying22 infoU1 infoU2 rfl (by decide) (by decide) rfl ?_
          intro y2 g2 hb2 hk2
          try simp only [Act.put, List.setIfInBounds_toArray, List.set_cons_zero, List.set_cons_succ]
          refine wpList_flatN rfl 22 5 1 _ rfl .u8 [4] 211 rfl Try.underlying22 infoU1 infoU2 rfl (by decide) (by decide) rfl ?_
          intro y3 g3 hb3 hk3
          try simp only [Act.put, List.setIfInBounds_toArray, List.set_cons_zero, List.set_cons_succ]
          refine wpList_rowsX rfl 36 22 _ 1 [.slice (some ⟨g1, 0, none⟩) 1 1, .slice (some ⟨g2, 0, none⟩) 1 1, .slice none 0 0, .slice (some ⟨g3, 0, none⟩) 1 1] rfl (fun i => ([.tmp 209, .tmp 210, .const (.slice none 0 0), .tmp 211] : List Operand).getD i (.tmp 0)) 212 rfl Try.underlying36 infoB1 infoB2 (by decide) (by simp) (by simp) rfl (fun v hv => by simp only [List.mem_cons, List.not_mem_nil, or_false] at hv; rcases hv with rfl | rfl | rfl | rfl <;> rfl) (fun i hi => by
            match i, hi with
            | 0, _ => rfl
            | 1, _ => rfl
            | 2, _ => rfl
            | 3, _ => rfl
            | n + 4, h => exact absurd h (by simp)) ?_
          intro y4 g4 hb4 hk4
          try simp only [Act.put, List.setIfInBounds_toArray, List.set_cons_zero, List.set_cons_succ]
          refine wpList_buildFlatArrTo rfl 43 5 2 _ rfl .u8 [0, 1] (some 213) rfl Try.underlying43 infoU1 infoPz rfl ?_
          try simp only [Act.put, List.setIfInBounds_toArray, List.set_cons_zero, List.set_cons_succ]
          refine wpList_buildFlatArrTo rfl 43 5 2 _ rfl .u8 [1, 2] (some 214) rfl Try.underlying43 infoU1 infoPz rfl ?_
          try simp only [Act.put, List.setIfInBounds_toArray, List.set_cons_zero, List.set_cons_succ]
          refine wpList_buildFlatArrTo rfl 43 5 2 _ rfl .u8 [0, 3] (some 215) rfl Try.underlying43 infoU1 infoPz rfl ?_
          try simp only [Act.put, List.setIfInBounds_toArray, List.set_cons_zero, List.set_cons_succ]
          refine wpList_buildFlatArrTo rfl 43 5 2 _ rfl .u8 [3, 0] (some 216) rfl Try.underlying43 infoU1 infoPz rfl ?_
          try simp only [Act.put, List.setIfInBounds_toArray, List.set_cons_zero, List.set_cons_succ]
          refine wpList_buildFlatArrTo rfl 43 5 2 _ rfl .u8 [2, 2] (some 217) rfl Try.underlying43 infoU1 infoPz rfl ?_
          try simp only [Act.put, List.setIfInBounds_toArray, List.set_cons_zero, List.set_cons_succ]
          refine wpList_rowsN rfl 42 43 _ 2 [.agg #[.int .u8 0, .int .u8 1], .agg #[.int .u8 1, .int .u8 2], .agg #[.int .u8 0, .int .u8 3], .agg #[.int .u8 3, .int .u8 0], .agg #[.int .u8 2, .int .u8 2]] rfl (fun i => 213 + i) 218 rfl Try.underlying42 infoP1 infoP2 (by decide) (by decide) (by decide) rfl (fun v hv => by simp only [List.mem_cons, List.not_mem_nil, or_false] at hv; rcases hv with rfl | rfl | rfl | rfl | rfl <;> rfl) (fun i hi => by
            match i, hi with
            | 0, _ => rfl
            | 1, _ => rfl
            | 2, _ => rfl
            | 3, _ => rfl
            | 4, _ => rfl
            | n + 5, h => exact absurd h (by simp)) ?_
          intro y5 g5 hb5 hk5
          try simp only [Act.put, List.setIfInBounds_toArray, List.set_cons_zero, List.set_cons_succ]
          rw [show ([1].map (Value.int .u8)) = ucells ⟨#[1]⟩ from rfl] at hk1
          rw [show ([2].map (Value.int .u8)) = ucells ⟨#[2]⟩ from rfl] at hk2
          rw [show ([4].map (Value.int .u8)) = ucells ⟨#[4]⟩ from rfl] at hk3
          have h45 := hb4.trans (hb5.mono hb4.size)
          have h35 := hb3.trans (h45.mono hb3.size)
          have h25 := hb2.trans (h35.mono hb2.size)
          have h15 := hb1.trans (h25.mono hb1.size)
          have hR2 : Rows2 y5 (some ⟨g4, 0, none⟩) [(.slice (some ⟨g1, 0, none⟩) 1 1, ⟨#[1]⟩), (.slice (some ⟨g2, 0, none⟩) 1 1, ⟨#[2]⟩), (.slice none 0 0, ByteArray.empty), (.slice (some ⟨g3, 0, none⟩) 1 1, ⟨#[4]⟩)] := ⟨(rd_blk hk4).below hb5, fun x hx => by
            simp only [List.mem_cons, List.not_mem_nil, or_false] at hx
            rcases hx with rfl | rfl | rfl | rfl
            · exact (bt_blk hk1).btr.below h25
            · exact (bt_blk hk2).btr.below h35
            · exact (bt_nil y5).btr
            · exact (bt_blk hk3).btr.below h45⟩
          have hP2 : Pairs y5 (some ⟨g5, 0, none⟩) [(0, 1), (1, 2), (0, 3), (3, 0), (2, 2)] := fun _ => ⟨g5, 0, rfl, hk5.lt, fun j m hm => by
            match j, hm with
            | 0, e => obtain rfl := Option.some.inj e; exact ⟨by decide, by decide, hk5.cell 0, hk5.cell 1⟩
            | 1, e => obtain rfl := Option.some.inj e; exact ⟨by decide, by decide, hk5.cell 2, hk5.cell 3⟩
            | 2, e => obtain rfl := Option.some.inj e; exact ⟨by decide, by decide, hk5.cell 4, hk5.cell 5⟩
            | 3, e => obtain rfl := Option.some.inj e; exact ⟨by decide, by decide, hk5.cell 6, hk5.cell 7⟩
            | 4, e => obtain rfl := Option.some.inj e; exact ⟨by decide, by decide, hk5.cell 8, hk5.cell 9⟩
            | n + 5, e => cases e⟩
          have HM := Lib.hid (moves_main y5 (some ⟨g4, 0, none⟩) (some ⟨g5, 0, none⟩) 4 5 _ _ hR2 hP2 (by simp) (by simp) (by simp))
          have HBY := Lib.hid (HKS.out.step h15).below
          clear hk1 hk2 hk3 hk4 hk5 hb1 hb2 hb3 hb4 hb5 h45 h35 h25 h15 hR2 hP2 HKS
          go_wp2_with fail
          refine HM.out.mono ?_
          rintro e y6 ⟨rfl, hb6⟩
          have HB6 := Lib.hid (HBY.out.trans (hb6.mono HBY.out.size))
          clear hb6 HM HBY
          go_wp2_with fail
          refine (stays_main y6 _ _ ByteArray.empty ByteArray.empty _ _ (bt_nil y6).btr (bt_nil y6).btr (by decide) (by decide)).mono ?_
          rintro e y7 ⟨rfl, hb7⟩
          have HB7 := Lib.hid (HB6.out.trans (hb7.mono HB6.out.size))
          clear hb7 HB6
          go_wp2_with fail
          refine (works_any _).mono ?_
          rintro e y8 ⟨rfl, hb8⟩
          have HB8 := Lib.hid (HB7.out.trans (hb8.mono HB7.out.size))
          clear hb8 HB7
          go_wp2
          go_ret
          exact ⟨rfl, HB8.out⟩
        | succ gf =>
          have hiI : (i : Int) < 20 := by omega
          have hi20 : i < 20 := by omega
          have hw8 : IntKind.u8.wrap (i : Int) = (i : Int) := by rw [IntKind.wrap_u8]; omega
          have hw16 : IntKind.u16.wrap (i : Int) = (i : Int) := by rw [IntKind.wrap_u16]; omega
          have hslB : ∀ W, (Instr.sliceAt 51 (.slice (some ⟨gB, 0, none⟩) 30 cr) (some (.int .i64 (i : Int))) none none).run Try.prog W = .ok (.slice (some ⟨gB, i * 6, none⟩) (30 - i) (cr - i)) W := fun W => by
            obtain ⟨i0, hi0, -, hz1, -⟩ := parts infoCT
            have h := (run_sliceAt_slice W _ _ _ _ _ (by rw [show Try.prog.elem 51 = 50 by kernel_rfl]; exact Try.underlying51)).trans (run_from Try.underlying51 hi0 (some ⟨gB, 0, none⟩) 30 cr i 6 hz1 (by omega) W)
            rw [h]
            unfold cutA
            rw [if_neg (by omega)]
            show _ = _
            rw [Option.map_some, addr_addN, Nat.zero_add]
          have hwv : (wr.alloc (.cells #[.int .i64 (i : Int), .int .i64 (-(i : Int)), .int .i64 ((i : Int) * 3)] 3)).heap.size = wr.heap.size + 1 := by simp
          have ha1 := (Below.refl wr.heap.size wr).alloc (Nat.le_refl _) (.cells #[.int .i64 (i : Int), .int .i64 (-(i : Int)), .int .i64 ((i : Int) * 3)] 3)
          have hs1 := HKS.out.step ha1
          have hc1 := fails_true (wr.alloc (.cells #[.int .i64 (i : Int), .int .i64 (-(i : Int)), .int .i64 ((i : Int) * 3)] 3)) 20 (some ⟨gA, 0, none⟩) 18 lA hs1.a HLA.out i (by omega) (some ⟨wr.heap.size, 0, none⟩) 3 [(i : Int), -(i : Int), (i : Int) * 3] (rd_vals wr [.int .i64 (i : Int), .int .i64 (-(i : Int)), .int .i64 ((i : Int) * 3)] 3 wr.heap.size rfl) (by show (3 : Nat) ≤ 40; decide)
          rw [HNA.out, show ([(i : Int), -(i : Int), (i : Int) * 3] : List Int).length = 3 from rfl] at hc1
          have HC1 := Lib.hid hc1; have HS1 := Lib.hid hs1
          clear hwv ha1 hs1 hc1 HKS
          go_wp2_with fail
          refine HC1.out.mono ?_
          rintro e x1 ⟨rfl, hb1⟩
          have hs2 := HS1.out.step hb1
          have hc2 := tells_true x1 ((i : Int) * 2 - 1) (some ⟨gB, 0, none⟩) cr lB hs2.b HLB.out
          rw [HNB.out] at hc2
          have HC2 := Lib.hid hc2; have HS2 := Lib.hid hs2
          clear hb1 hs2 hc2 HC1 HS1
          go_wp2_with fail
          refine HC2.out.mono ?_
          rintro e x2 ⟨rfl, hb2⟩
          have hs3 := HS2.out.step hb2
          have hdr := CallsT.drop hs3.b i
          rw [Nat.zero_add] at hdr
          have hc3 := tells_true x2 100 (some ⟨gB, i * 6, none⟩) (cr - i) (lB.drop i) hdr (HLB.out.drop i)
          rw [List.length_drop, HNB.out] at hc3
          have HC3 := Lib.hid hc3; have HS3 := Lib.hid hs3
          clear hb2 hs3 hc3 hdr HC2 HS2
          go_wp2_with fail
          refine HC3.out.mono ?_
          rintro e x3 ⟨rfl, hb3⟩
          have hs4 := HS3.out.step hb3
          have hcs1 : (convert 22 22 (.slice (some ⟨x3.heap.size, 0, none⟩) 2 2)).run Try.prog (x3.alloc (.cells #[.int .u8 97, .int .u8 98] 5)) = .ok (.slice (some ⟨x3.heap.size, 0, none⟩) 2 2) (x3.alloc (.cells #[.int .u8 97, .int .u8 98] 5 (2, 3))) := Lib.run_convert_bytes_const x3 22 5 #[.int .u8 97, .int .u8 98] 2 2 Try.underlying22 Try.underlying5
          have hcs2 : (convert 22 22 (.slice (some ⟨x3.heap.size + 1, 0, none⟩) 4 4)).run Try.prog ((x3.alloc (.cells #[.int .u8 97, .int .u8 98] 5 (2, 3))).alloc (.cells #[.int .u8 99, .int .u8 100, .int .u8 101, .int .u8 102] 5)) = .ok (.slice (some ⟨x3.heap.size + 1, 0, none⟩) 4 4) ((x3.alloc (.cells #[.int .u8 97, .int .u8 98] 5 (2, 3))).alloc (.cells #[.int .u8 99, .int .u8 100, .int .u8 101, .int .u8 102] 5 (4, 5))) := Joins.run_convert_bytes_const_at (x3.alloc (.cells #[.int .u8 97, .int .u8 98] 5 (2, 3))) 22 5 #[.int .u8 99, .int .u8 100, .int .u8 101, .int .u8 102] 4 4 (x3.heap.size + 1) (by simp) Try.underlying22 Try.underlying5
          have ha1 := (Below.refl x3.heap.size x3).alloc (Nat.le_refl _) (.cells #[.int .u8 97, .int .u8 98] 5 (2, 3))
          have ha2 := (Below.refl (x3.alloc (.cells #[.int .u8 97, .int .u8 98] 5 (2, 3))).heap.size (x3.alloc (.cells #[.int .u8 97, .int .u8 98] 5 (2, 3)))).alloc (Nat.le_refl _) (.cells #[.int .u8 99, .int .u8 100, .int .u8 101, .int .u8 102] 5 (4, 5))
          have hbt1 := (bt_mark x3 ⟨#[97, 98]⟩ (2, 3) x3.heap.size rfl).btr.below ha2
          have hbt2 := (bt_mark (x3.alloc (.cells #[.int .u8 97, .int .u8 98] 5 (2, 3))) ⟨#[99, 100, 101, 102]⟩ (4, 5) (x3.heap.size + 1) (by simp)).btr
          have hc4 := stays_main ((x3.alloc (.cells #[.int .u8 97, .int .u8 98] 5 (2, 3))).alloc (.cells #[.int .u8 99, .int .u8 100, .int .u8 101, .int .u8 102] 5 (4, 5))) (.slice (some ⟨x3.heap.size, 0, none⟩) 2 2) (.slice (some ⟨x3.heap.size + 1, 0, none⟩) 4 4) ⟨#[97, 98]⟩ ⟨#[99, 100, 101, 102]⟩ ((i : Int) - 9) 3 hbt1 hbt2 (by decide) (by decide)
          have HC4 := Lib.hid hc4; have HS4 := Lib.hid ((hs4.step ha1).step ha2)
          clear hb3 hs4 ha1 ha2 hbt1 hbt2 hc4 HC3 HS3
          go_wp2_with fail
          refine HC4.out.mono ?_
          rintro e x4 ⟨rfl, hb4⟩
          have HS5 := Lib.hid (HS4.out.step hb4)
          clear hb4 hcs1 hcs2 HC4 HS4
          dsimp only
          iterate 6 go_step
          refine wpList_valW (by rfl) 196 rfl (.bool false) (by go_simp) ?_
          try simp only [Act.put, List.setIfInBounds_toArray, List.set_cons_zero, List.set_cons_succ]
          refine wpList_valW (by rfl) 197 rfl (.int .i64 (i : Int)) (by go_simp) ?_
          try simp only [Act.put, List.setIfInBounds_toArray, List.set_cons_zero, List.set_cons_succ]
          refine wpList_valW (by rfl) 198 rfl (.int .u16 (i : Int)) (by go_simp) ?_
          try simp only [Act.put, List.setIfInBounds_toArray, List.set_cons_zero, List.set_cons_succ]
          refine wpList_flatW (by rfl) 22 5 1 _ rfl .u8 [1] 199 rfl Try.underlying22 infoU1 infoU2 rfl (by decide) (by decide) rfl ?_
          intro z1 g1 hz1 hk1
          try simp only [Act.put, List.setIfInBounds_toArray, List.set_cons_zero, List.set_cons_succ]
          refine wpList_flatW (by rfl) 22 5 2 _ rfl .u8 [2, 3] 200 rfl Try.underlying22 infoU1 infoU2 rfl (by decide) (by decide) rfl ?_
          intro z2 g2 hz2 hk2
          try simp only [Act.put, List.setIfInBounds_toArray, List.set_cons_zero, List.set_cons_succ]
          refine wpList_flatW (by rfl) 22 5 1 _ rfl .u8 [4] 201 rfl Try.underlying22 infoU1 infoU2 rfl (by decide) (by decide) rfl ?_
          intro z3 g3 hz3 hk3
          try simp only [Act.put, List.setIfInBounds_toArray, List.set_cons_zero, List.set_cons_succ]
          refine wpList_flatW (by rfl) 22 5 3 _ rfl .u8 [5, 6, 7] 202 rfl Try.underlying22 infoU1 infoU2 rfl (by decide) (by decide) rfl ?_
          intro z4 g4 hz4 hk4
          try simp only [Act.put, List.setIfInBounds_toArray, List.set_cons_zero, List.set_cons_succ]
          refine wpList_rowsW (by rfl) 36 22 _ 1 [.slice (some ⟨g1, 0, none⟩) 1 1, .slice (some ⟨g2, 0, none⟩) 2 2, .slice none 0 0, .slice (some ⟨g3, 0, none⟩) 1 1, .slice (some ⟨g4, 0, none⟩) 3 3] rfl (fun i => ([.tmp 199, .tmp 200, .const (.slice none 0 0), .tmp 201, .tmp 202] : List Operand).getD i (.tmp 0)) 203 rfl Try.underlying36 infoB1 infoB2 (by decide) (by simp) (by simp) rfl (fun v hv => by simp only [List.mem_cons, List.not_mem_nil, or_false] at hv; rcases hv with rfl | rfl | rfl | rfl | rfl <;> rfl) (fun i hi => by
            match i, hi with
            | 0, _ => rfl
            | 1, _ => rfl
            | 2, _ => rfl
            | 3, _ => rfl
            | 4, _ => rfl
            | n + 5, h => exact absurd h (by simp)) ?_
          intro z5 g5 hz5 hk5
          try simp only [Act.put, List.setIfInBounds_toArray, List.set_cons_zero, List.set_cons_succ]
          rw [show ([1].map (Value.int .u8)) = ucells ⟨#[1]⟩ from rfl] at hk1
          rw [show ([2, 3].map (Value.int .u8)) = ucells ⟨#[2, 3]⟩ from rfl] at hk2
          rw [show ([4].map (Value.int .u8)) = ucells ⟨#[4]⟩ from rfl] at hk3
          rw [show ([5, 6, 7].map (Value.int .u8)) = ucells ⟨#[5, 6, 7]⟩ from rfl] at hk4
          have h45 := hz4.trans (hz5.mono hz4.size)
          have h35 := hz3.trans (h45.mono hz3.size)
          have h25 := hz2.trans (h35.mono hz2.size)
          have h15 := hz1.trans (h25.mono hz1.size)
          have hR2 : Rows2 z5 (some ⟨g5, 0, none⟩) [(.slice (some ⟨g1, 0, none⟩) 1 1, ⟨#[1]⟩), (.slice (some ⟨g2, 0, none⟩) 2 2, ⟨#[2, 3]⟩), (.slice none 0 0, ByteArray.empty), (.slice (some ⟨g3, 0, none⟩) 1 1, ⟨#[4]⟩), (.slice (some ⟨g4, 0, none⟩) 3 3, ⟨#[5, 6, 7]⟩)] := ⟨rd_blk hk5, fun x hx => by
            simp only [List.mem_cons, List.not_mem_nil, or_false] at hx
            rcases hx with rfl | rfl | rfl | rfl | rfl
            · exact (bt_blk hk1).btr.below h25
            · exact (bt_blk hk2).btr.below h35
            · exact (bt_nil z5).btr
            · exact (bt_blk hk3).btr.below h45
            · exact (bt_blk hk4).btr.below hz5⟩
          have HC5 := Lib.hid (room_main z5 i (some ⟨g5, 0, none⟩) 5 _ ((i : Int) - 7) hR2 (by omega) (by simp))
          have HS6 := Lib.hid (HS5.out.step h15)
          clear hk1 hk2 hk3 hk4 hk5 hz1 hz2 hz3 hz4 hz5 h45 h35 h25 h15 hR2 HS5
          go_wp2_with fail
          refine HC5.out.mono ?_
          rintro e x5 ⟨rfl, hb5⟩
          have HS7 := Lib.hid (HS6.out.step hb5)
          clear hb5 HC5 HS6
          go_wp2
          go_roundg gf
          case measure => omega
          case rel => exact ⟨i + 1, by go_num, by omega, HS7.out⟩
end Go.Proofs.Ytcfcfpphhaknnaa
