/- The law of moves: its walk. -/
import Derived.Test.YtcfcfpphhaknnaaMovesL
import Derived.IntWalk
import Derived.Deep.DeepCutAuto
import Derived.Deep.RegionHeld3
import Derived.Deep.DrawnRows
namespace Go.Proofs.Ytcfcfpphhaknnaa
open Go.RowKit

theorem own_keep {w w' : World} {b : Nat} {e : TypeId} {size n : Nat} {v : Value} {xs : List Value} (h : w.ownsRow b e size v n xs) (hk : ∀ (g : Nat) cs fz, w.heap[g]? = some (.cells cs e fz) → w'.heap[g]? = w.heap[g]?) : w'.ownsRow b e size v n xs := by
  refine ⟨h.1, ?_⟩
  rcases h.2 with hn | ⟨g, cap, cur, hv, hb, hh, rest⟩
  · exact .inl hn
  · exact .inr ⟨g, cap, cur, hv, hb, (hk g cur _ hh).trans hh, rest⟩
theorem own_below {w w' : World} {b : Nat} {e : TypeId} {size n : Nat} {v : Value} {xs : List Value} (h : w.ownsRow b e size v n xs) (hb : Below w.heap.size w w') : w'.ownsRow b e size v n xs :=
  own_keep h fun g _ _ hh => hb.block g (Array.getElem?_eq_some_iff.1 hh).1
/-- a disk stays where only blocks of ints are written -/
theorem DiskIs.ints {w w' : World} {B p : Nat} {v : Value} {D : DiskD} (h : DiskIs w B p v D) (hb : ∀ (k : Nat) cs t fz, t ≠ 3 → w.heap[k]? = some (.cells cs t fz) → w'.heap[k]? = w.heap[k]?) : DiskIs w' B p v D := by
  obtain ⟨h0, hb0, rows, hr, hR⟩ := h
  refine ⟨h0, (hb p _ _ _ (by decide) hb0).trans hb0, rows, hr, hR.keep (fun g hg => ?_) (fun blk cs fz hh => hb blk cs _ fz (by decide) hh)⟩
  rcases hR.1.2 with ⟨rfl, _⟩ | ⟨g', cap, cur, rfl, _, hh, _⟩
  · cases hg
  · simp only [Value.ownBlock, Option.some.injEq] at hg
    subst hg
    exact hb _ _ _ _ (by decide) hh
theorem ints_grown {w w' : World} {B n : Nat} {va : Value} {xs : List Value} (ho : w.ownsRow B 3 1 va n xs) {o : Obj} (hg : (w.alloc o).grownBy w' va.ownBlock) : ∀ (k : Nat) cs t fz, t ≠ 3 → w.heap[k]? = some (.cells cs t fz) → w'.heap[k]? = w.heap[k]? := by
  intro k cs t fz ht hh
  have hk := (Array.getElem?_eq_some_iff.1 hh).1
  exact (hg.block k (by simp; omega) (fun e => own_type ho (fun e => ht e.symm) k e.symm cs fz hh)).trans (Below.heap_alloc w o k hk)
theorem ints_set {w : World} {g i : Nat} {cs0 : Array Value} {fz0 : Nat × Nat} (hb : w.heap[g]? = some (.cells cs0 3 fz0)) (u : Value) : ∀ (k : Nat) cs t fz, t ≠ 3 → w.heap[k]? = some (.cells cs t fz) → (w.setCell ⟨g, i, none⟩ u).heap[k]? = w.heap[k]? := by
  intro k cs t fz ht hh
  refine Below.heap_setCell w _ u k (fun e => ?_)
  have e : k = g := e
  subst e
  exact blk_type hb hh (fun e => ht e.symm)
/-- a row of ints is written at a place -/
theorem own_set {w : World} {B g n cap : Nat} {xs : List Value} (h : w.ownsRow B 3 1 (.slice (some ⟨g, 0, none⟩) n cap) n xs) {i : Nat} (u : Value) :
    (w.setCell ⟨g, i, none⟩ u).ownsRow B 3 1 (.slice (some ⟨g, 0, none⟩) n cap) n (xs.set i u) ∧ (∃ cur, Blk w g 3 cur) ∧ B ≤ g := by
  rcases h.2 with ⟨hv, _⟩ | ⟨g', cap', cur, hv, hb, hh, hc, hmx, hcs, htk⟩
  · cases hv
  · simp only [Value.slice.injEq, Option.some.injEq, Addr.mk.injEq, and_true, true_and] at hv
    obtain ⟨rfl, rfl⟩ := hv
    refine ⟨⟨by rw [List.length_set]; exact h.1, .inr ⟨g, cap, _, rfl, hb, Blk.set_ (cs := cur) hh i u, hc, hmx, by simpa using hcs, ?_⟩⟩, ⟨cur, hh⟩, hb⟩
    rw [Array.toList_setIfInBounds, List.take_set, htk]
/-- a [][2]uint8 argument -/
def Pairs (w : World) (A : Option Addr) (ms : List (Nat × Nat)) : Prop := 0 < ms.length → ∃ b o, A = some ⟨b, o, none⟩ ∧ b < w.heap.size ∧ ∀ (j : Nat) m, ms[j]? = some m → m.1 ≤ 255 ∧ m.2 ≤ 255 ∧ w.cell? ⟨b, o + j * 2, none⟩ = some (.int .u8 m.1) ∧ w.cell? ⟨b, o + j * 2 + 1, none⟩ = some (.int .u8 m.2)
/-- the state of the first loop's round -/
def PutSt (w wr : World) (p : Nat) (l : List ByteArray) (i : Nat) (at_ : List Int) (va : Value) (L : List FileD) (n : Nat) (v : Value) : Prop :=
  DiskIs wr w.heap.size p v ⟨L, 2000, n, -1, false⟩ ∧ Below w.heap.size w wr ∧ MovesSt l at_ L ∧ at_.length = i ∧ usedL L ≤ 100 * i ∧ n ≤ i ∧ wr.ownsRow w.heap.size 3 1 va i (at_.map (Value.int .i64))
/-- the state of the second loop's round -/
def MvSt (w wr : World) (p : Nat) (l : List ByteArray) (N i : Nat) (at_ : List Int) (g cap : Nat) (L : List FileD) (n : Nat) (v : Value) : Prop :=
  DiskIs wr w.heap.size p v ⟨L, 2000, n, -1, false⟩ ∧ Below w.heap.size w wr ∧ MovesSt l at_ L ∧ at_.length = N ∧ n ≤ 12 + i ∧ wr.ownsRow w.heap.size 3 1 (.slice (some ⟨g, 0, none⟩) N cap) N (at_.map (Value.int .i64))
theorem fit_moves {L : List FileD} {q n : Int} {o : Bool} (hl : L.length ≤ 1000) (hu : ∀ g ∈ L, g.b.size ≤ 100) (hn : 0 ≤ n) (hn2 : n ≤ 1000) : Fit ⟨L, q, n, -1, o⟩ :=
  fit_small (by omega) (fun f hf => by have := hu f hf; omega) hn (by omega) (by decide) (by decide)
theorem infoI : (Try.prog.info? 3).map (fun i => (i.zero, i.size, i.bytes)) = some (some (.int .i64 0), 1, 8) := by kernel_rfl
attribute [local go_sem ↓] Go.wp_at_zero Go.wp_at_succ
set_option maxRecDepth 100000 in
set_option maxHeartbeats 16000000 in
theorem moves_main (w : World) (A A2 : Option Addr) (c c2 : Nat) (xs : List (Value × ByteArray)) (ms : List (Nat × Nat)) (hX : Rows2 w A xs) (hP : Pairs w A2 ms) (hl1 : 1 ≤ xs.length) (hl : xs.length ≤ 12) (hm : ms.length ≤ 30) :
    Calls Try.prog 5 #[.slice A xs.length c, .slice A2 ms.length c2] w fun e w' => e = .returned (.bool true) ∧ Below w.heap.size w w' := by
  obtain ⟨i0, hi0, hz0, hz1, hz2⟩ := parts infoI
  have HX := Lib.hid hX; have HP := Lib.hid hP; have HI0 := Lib.hid hi0; have HZ0 := Lib.hid hz0
  clear hX hP hi0 hz0
  have h1I : ¬ (xs.length : Int) < 1 := by omega
  have h2I : ¬ (12 : Int) < (xs.length : Int) := by omega
  have h3I : ¬ (30 : Int) < (ms.length : Int) := by omega
  go_enter Try.func5, Try.ntmps5
  go_wp2_with fail
  refine (new_any 2000 _).mono ?_
  rintro e w1 ⟨rfl, hd1, hb1⟩
  have h0 : PutSt w w1 w.heap.size (xs.map (·.2)) 0 [] (.slice none 0 0) [] 0 (.slice none 0 0) := ⟨hd1, hb1, moves_none _, rfl, Nat.le_refl _, Nat.le_refl _, World.ownsRow_nil _ _ _ _⟩
  have H0 := Lib.hid h0
  clear h0 hd1 hb1
  go_wp2
  go_loopg [6, 7] xs.length (fun gf va vi wr => ∃ (i n : Nat) (at_ : List Int) (L : List FileD) (v : Value), vi = .int .i64 i ∧ i + gf = xs.length ∧ PutSt w wr w.heap.size (xs.map (·.2)) i at_ va L n v)
  case atStart => exact ⟨0, 0, [], [], _, rfl, by omega, H0.out⟩
  case round =>
    obtain ⟨i, n, at_, L, v, rfl, hi, hst⟩ := hrel
    cases gk with
    | zero =>
      obtain rfl : i = xs.length := by omega
      obtain ⟨hD, hB, hM, hal, hu, hn, hO⟩ := hst
      obtain ⟨g, cap, hva, hg1, hg2⟩ := hO.form (by omega)
      subst hva
      have h0 : MvSt w wr w.heap.size (xs.map (·.2)) xs.length 0 at_ g cap L n v := ⟨hD, hB, hM, hal, by omega, hO⟩
      have H1 := Lib.hid h0
      clear h0 hD hB hM hal hu hn hO hi
      go_wp2
      go_loopg [8] ms.length (fun gf vi wr => ∃ (i n : Nat) (at_ : List Int) (L : List FileD) (v : Value), vi = .int .i64 i ∧ i + gf = ms.length ∧ MvSt w wr w.heap.size (xs.map (·.2)) xs.length i at_ g cap L n v)
      case atStart => exact ⟨0, n, at_, L, v, rfl, by omega, H1.out⟩
      case round =>
        clear H1
        obtain ⟨i, n, at_, L, v, rfl, hi, hst⟩ := hrel
        cases gk with
        | zero =>
          obtain rfl : i = ms.length := by omega
          obtain ⟨hD, hB, hM, hal, hn, hO⟩ := hst
          have HM := Lib.hid hM; have HAL := Lib.hid hal; have H2 := Lib.hid (And.intro hD (And.intro hB hO))
          have hfew := hM.few
          rw [hal] at hfew
          clear hM hal hD hB hO hi
          go_wp2
          go_loopg [16] xs.length (fun gf vi wr => ∃ i : Nat, vi = .int .i64 i ∧ i + gf = xs.length ∧ DiskIs wr w.heap.size w.heap.size v ⟨L, 2000, n, -1, false⟩ ∧ Below w.heap.size w wr ∧ wr.ownsRow w.heap.size 3 1 (.slice (some ⟨g, 0, none⟩) xs.length cap) xs.length (at_.map (Value.int .i64)))
          case atStart => exact ⟨0, rfl, by omega, H2.out⟩
          case round =>
            clear H2
            obtain ⟨i, rfl, hi, hD, hB, hO⟩ := hrel
            have HD := Lib.hid hD; have HB := Lib.hid hB; have HO := Lib.hid hO
            clear hD hB hO
            cases gk with
            | zero =>
              obtain rfl : i = xs.length := by omega
              go_wp2_with fail
              refine (works_any _).mono ?_
              rintro e w2 ⟨rfl, hb2⟩
              have HB2 := Lib.hid (HB.out.trans (hb2.mono HB.out.size))
              clear hb2
              go_wp2
              go_ret
              exact ⟨rfl, HB2.out⟩
            | succ gf =>
              have hir : i < xs.length := by omega
              have hiI : (i : Int) < (xs.length : Int) := by omega
              have hal := HAL.out
              obtain ⟨kk, hkk⟩ : ∃ kk, at_[i]? = some kk := ⟨_, List.getElem?_eq_getElem (by omega)⟩
              have hrng := HM.out.rng i kk hkk
              clear hal
              have HKK := Lib.hid hkk
              clear hkk
              rcases hrng with rfl | ⟨hk0, hk1⟩
              · have hE := moves_readno (q := 2000) (n := n) HM.out HKK.out
                have HE := Lib.hid hE
                clear hE
                go_wp2_with fail
                refine (name_any i (by omega) _).mono ?_
                rintro e w2 ⟨rfl, hb2⟩
                have hc := d_read (HD.out.below hb2 (Nat.le_refl _)) (fit_moves (by omega) (fun g hg => (HM.out.size g hg).2) (by omega) (by omega)) HE.out
                have HC := Lib.hid hc; have HB2 := Lib.hid hb2
                clear hc hb2
                go_wp2_with fail
                refine HC.out.mono ?_
                rintro e w3 ⟨bv, rfl, hbv, hb3⟩
                have hb23 := HB2.out.trans (hb3.mono HB2.out.size)
                have ho3 := own_below HO.out hb23
                have c3 : w3.cell? ⟨g, i, none⟩ = some (.int .i64 (-1)) := (ho3.cellAt i (by omega)).trans (by rw [List.getElem?_map, HKK.out]; rfl)
                have HD3 := Lib.hid (HD.out.below hb23 (Nat.le_refl _)); have HB3 := Lib.hid (HB.out.trans (hb23.mono HB.out.size)); have HO3 := Lib.hid ho3
                clear hb3 hb23 ho3 hbv
                go_wp2_with fail
                go_quiet (fail)
                all_goals
                  go_wp2
                  go_roundg gf
                  case measure => omega
                  case rel => exact ⟨i + 1, by go_num, by omega, HD3.out, below_drewN HB3.out _, HO3.out⟩
              · obtain ⟨k, rfl⟩ : ∃ k : Nat, kk = k := ⟨kk.toNat, by omega⟩
                rw [List.length_map] at hk1
                have hkN : k < xs.length := by omega
                have hkI : (k : Int) < (xs.length : Int) := by omega
                obtain ⟨b, hlb, hE⟩ := moves_read (q := 2000) (n := n) HM.out HKK.out
                have HE := Lib.hid hE; have HLB := Lib.hid hlb
                clear hE hlb
                go_wp2_with fail
                refine (name_any i (by omega) _).mono ?_
                rintro e w2 ⟨rfl, hb2⟩
                have hc := d_read (HD.out.below hb2 (Nat.le_refl _)) (fit_moves (by omega) (fun g hg => (HM.out.size g hg).2) (by omega) (by omega)) HE.out
                have HC := Lib.hid hc; have HB2 := Lib.hid hb2
                clear hc hb2
                go_wp2_with fail
                refine HC.out.mono ?_
                rintro e w3 ⟨bv, rfl, hbv, hb3⟩
                have hb23 := HB2.out.trans (hb3.mono HB2.out.size)
                have ho3 := own_below HO.out hb23
                have c3 : w3.cell? ⟨g, i, none⟩ = some (.int .i64 (k : Int)) := (ho3.cellAt i (by omega)).trans (by rw [List.getElem?_map, HKK.out]; rfl)
                have hB3 := HB.out.trans (hb23.mono HB.out.size)
                obtain ⟨ad, x, A', c', rfl, hx, hx1, hcc, hadl2, hc11, hbt⟩ := HX.out.at_ hB3 hkN
                have hxb : x.2 = b := by
                  have h1 := HLB.out
                  rw [List.getElem?_map, hx] at h1
                  injection h1
                obtain ⟨Ab, nb, cb, hbve⟩ : ∃ A n c, bv = Value.slice A n c := by
                  obtain ⟨A, c, h, _⟩ := hbv
                  exact ⟨A, _, c, h⟩
                subst hbve
                obtain ⟨nx, hnx⟩ : ∃ nx, x.2.size = nx := ⟨_, rfl⟩
                rw [hnx] at hc11 hbt
                rw [hxb] at hbt
                have s2 := fun m => BtR.conv (w := w3.drewN m) hbv.btr
                have s3 := fun m => BtR.conv (w := w3.drewN m) hbt
                have HD3 := Lib.hid (HD.out.below hb23 (Nat.le_refl _)); have HB3 := Lib.hid hB3; have HO3 := Lib.hid ho3
                clear hb3 hb23 ho3 hbv hB3 hx hx1 hbt hxb hnx hcc
                have hkd1 : decide ((k : Int) < 0) = false := by simp
                have hkd2 : decide (0 ≤ (k : Int)) = true := by simp
                go_wp2_with fail
                go_quiet (fail)
                all_goals
                  go_wp2
                  go_roundg gf
                  case measure => omega
                  case rel => exact ⟨i + 1, by go_num, by omega, HD3.out, below_drewN HB3.out _, HO3.out⟩
        | succ gf =>
          obtain ⟨hD, hB, hM, hal, hn, hO⟩ := hst
          obtain ⟨pb, po, rfl, hadl, hadm⟩ := HP.out (by omega)
          have hil : i < ms.length := by omega
          obtain ⟨hm1, hm2, hc1, hc2⟩ := hadm i ms[i] (List.getElem?_eq_getElem hil)
          obtain ⟨m1, hm1e⟩ : ∃ m1, ms[i].1 = m1 := ⟨_, rfl⟩
          obtain ⟨m2, hm2e⟩ : ∃ m2, ms[i].2 = m2 := ⟨_, rfl⟩
          rw [hm1e] at hm1 hc1
          rw [hm2e] at hm2 hc2
          have k1 := (hB.cell (p := ⟨pb, po + i * 2, none⟩) hadl).trans hc1
          have k2 := (hB.cell (p := ⟨pb, po + i * 2 + 1, none⟩) hadl).trans hc2
          have hiI : (i : Int) < (ms.length : Int) := by omega
          obtain ⟨src, hsrc⟩ : ∃ s, m1 % xs.length = s := ⟨_, rfl⟩
          obtain ⟨dst, hdst⟩ : ∃ s, m2 % xs.length = s := ⟨_, rfl⟩
          have hsl : src < xs.length := by rw [← hsrc]; exact Nat.mod_lt _ (by omega)
          have hdl : dst < xs.length := by rw [← hdst]; exact Nat.mod_lt _ (by omega)
          have hs1 : (m1 : Int).tmod (xs.length : Int) = (src : Int) := by rw [Int.tmod_eq_emod_of_nonneg (by omega), ← hsrc]; exact (Int.natCast_emod m1 xs.length).symm
          have hd1 : (m2 : Int).tmod (xs.length : Int) = (dst : Int) := by rw [Int.tmod_eq_emod_of_nonneg (by omega), ← hdst]; exact (Int.natCast_emod m2 xs.length).symm
          have hs2 : (m1 : Int) % (xs.length : Int) = (src : Int) := by rw [← hsrc]; exact (Int.natCast_emod m1 xs.length).symm
          have hd2 : (m2 : Int) % (xs.length : Int) = (dst : Int) := by rw [← hdst]; exact (Int.natCast_emod m2 xs.length).symm
          have hne0 : xs.length ≠ 0 := by omega
          have hne1 : ¬ (xs.length : Int) = 0 := by omega
          have HD := Lib.hid hD; have HB := Lib.hid hB; have HM := Lib.hid hM; have HAL := Lib.hid hal; have HO := Lib.hid hO
          clear hD hB hM hal hO hc1 hc2 hm1e hm2e hsrc hdst hadm
          go_wp2_with fail
          go_region_held3 (fun w' => w'.cell? ⟨pb, po + i * 2, none⟩ = some (.int .u8 m1) ∧ w'.cell? ⟨pb, po + i * 2 + 1, none⟩ = some (.int .u8 m2)) (go_keep) (fail)
          rw [IntWalk.i64_in (m1 : Int) (by omega), IntWalk.i64_in (m2 : Int) (by omega), hs1, hd1]
          have hal := HAL.out
          obtain ⟨kk, hkk⟩ : ∃ kk, at_[src]? = some kk := ⟨_, List.getElem?_eq_getElem (by omega)⟩
          have hrng := HM.out.rng src kk hkk
          have hfew := HM.out.few
          rw [hal] at hfew
          clear hal
          rcases hrng with rfl | ⟨hk0, hk1⟩
          · have hE := moves_no (q := 2000) (n := n) (dst := dst) HM.out hkk
            have HE := Lib.hid hE; have HKK := Lib.hid hkk
            clear hE hkk
            go_wp2_with fail
            refine (name_any src (by omega) _).mono ?_
            rintro e w2 ⟨rfl, hb2⟩
            have HB2 := Lib.hid (((Below.refl wr.heap.size wr).drew).trans hb2)
            clear hb2
            go_wp2_with fail
            refine (name_any dst (by omega) _).mono ?_
            rintro e w3 ⟨rfl, hb3⟩
            have hB3 := HB2.out.trans (hb3.mono HB2.out.size)
            have hBw3 := HB.out.trans (hB3.mono HB.out.size)
            have hc := d_rename (HD.out.below hB3 (Nat.le_refl _)) hBw3.size (fit_moves (by omega) (fun g hg => (HM.out.size g hg).2) (by omega) (by omega)) HE.out
            have HC := Lib.hid hc; have HB3 := Lib.hid hB3; have HBW3 := Lib.hid hBw3
            clear hc hB3 hBw3 hb3
            go_wp2_with fail
            refine HC.out.mono ?_
            rintro e w4 ⟨rfl, v4, o4⟩
            have ho4 := own_keep (own_below HO.out HB3.out) (fun g cs fz hh => o4.blk g cs 3 fz (by decide) (by decide) hh)
            have c4 : w4.cell? ⟨g, src, none⟩ = some (.int .i64 (-1)) := (ho4.cellAt src (by omega)).trans (by rw [List.getElem?_map, HKK.out]; rfl)
            have HO4 := Lib.hid ho4; have HD4 := Lib.hid o4.is; have HB4 := Lib.hid (HBW3.out.trans o4.below)
            clear ho4 o4
            have hslI : (src : Int) < (xs.length : Int) := by omega
            go_wp2
            go_roundg gf
            case measure => omega
            case rel => exact ⟨i + 1, n, at_, L, v4, by go_num, by omega, HD4.out, HB4.out, HM.out, HAL.out, by omega, HO4.out⟩
          · obtain ⟨k, rfl⟩ : ∃ k : Nat, kk = k := ⟨kk.toNat, by omega⟩
            obtain ⟨L2, b, hE, hM2, hlb, hmem⟩ := moves_yes (q := 2000) (n := n) HM.out (by rw [List.length_map]; omega) (dst := dst) (by rw [HAL.out]; exact hdl) hkk
            obtain ⟨L3, hon, hrd, hl3, hsz3⟩ := moves_safe (q := 2000) (n := (n : Int) + 1) hM2.sorted hmem rfl
            have hfew2 := hM2.few
            rw [List.length_set, List.length_set, HAL.out] at hfew2
            rw [List.length_map] at hk1
            have hkN : k < xs.length := by omega
            have hkI : (k : Int) < (xs.length : Int) := by omega
            have hslI : (src : Int) < (xs.length : Int) := by omega
            have hdlI : (dst : Int) < (xs.length : Int) := by omega
            have hg3 : ∀ f ∈ L3, f.b.size ≤ 100 := fun f hf => by
              obtain ⟨f2, h2, hle⟩ := hsz3 f hf
              have := (hM2.size f2 h2).2
              omega
            have HE := Lib.hid hE; have HKK := Lib.hid hkk; have HM2 := Lib.hid hM2; have HLB := Lib.hid hlb; have HON := Lib.hid hon; have HRD := Lib.hid hrd; have HG3 := Lib.hid hg3
            clear hE hkk hM2 hlb hmem hon hrd hsz3 hg3 hk0
            go_wp2_with fail
            refine (name_any src (by omega) _).mono ?_
            rintro e w2 ⟨rfl, hb2⟩
            have HB2 := Lib.hid (((Below.refl wr.heap.size wr).drew).trans hb2)
            clear hb2
            go_wp2_with fail
            refine (name_any dst (by omega) _).mono ?_
            rintro e w3 ⟨rfl, hb3⟩
            have hB3 := HB2.out.trans (hb3.mono HB2.out.size)
            have hBw3 := HB.out.trans (hB3.mono HB.out.size)
            have hc := d_rename (HD.out.below hB3 (Nat.le_refl _)) hBw3.size (fit_moves (by omega) (fun g hg => (HM.out.size g hg).2) (by omega) (by omega)) HE.out
            have HC := Lib.hid hc; have HB3 := Lib.hid hB3; have HBW3 := Lib.hid hBw3
            clear hc hB3 hBw3 hb3
            go_wp2_with fail
            refine HC.out.mono ?_
            rintro e w4 ⟨rfl, v4, o4⟩
            have ho4 := own_keep (own_below HO.out HB3.out) (fun g cs fz hh => o4.blk g cs 3 fz (by decide) (by decide) hh)
            have c4 : w4.cell? ⟨g, src, none⟩ = some (.int .i64 (k : Int)) := (ho4.cellAt src (by omega)).trans (by rw [List.getElem?_map, HKK.out]; rfl)
            obtain ⟨ho5, ⟨cur4, hbk4⟩, hgB⟩ := own_set ho4 (i := src) (.int .i64 (-1))
            have f4 := hbk4.frozen src
            have f4' := hbk4.frozen dst
            obtain ⟨ho6, ⟨cur5, hbk5⟩, -⟩ := own_set ho5 (i := dst) (.int .i64 (k : Int))
            obtain ⟨z5, c5⟩ : ∃ z, (w4.setCell ⟨g, src, none⟩ (.int .i64 (-1))).cell? ⟨g, dst, none⟩ = some z := by
              have h1 := ho5.cellAt dst (by omega)
              rw [List.getElem?_eq_getElem (by rw [List.length_set, List.length_map, HAL.out]; exact hdl)] at h1
              exact ⟨_, h1⟩
            have hd6 := (o4.is.ints (ints_set hbk4 (.int .i64 (-1)) (i := src))).ints (ints_set hbk5 (.int .i64 (k : Int)) (i := dst))
            have hb6 := ((HBW3.out.trans o4.below).setCell (p := ⟨g, src, none⟩) hgB (.int .i64 (-1))).setCell (p := ⟨g, dst, none⟩) hgB (.int .i64 (k : Int))
            obtain ⟨w6, hw6⟩ : ∃ w6, w6 = (w4.setCell ⟨g, src, none⟩ (.int .i64 (-1))).setCell ⟨g, dst, none⟩ (.int .i64 (k : Int)) := ⟨_, rfl⟩
            rw [← hw6] at hd6 hb6 ho6
            have hat6 : ((at_.map (Value.int .i64)).set src (.int .i64 (-1))).set dst (.int .i64 (k : Int)) = (((at_.set src (-1)).set dst (k : Int)).map (Value.int .i64)) := by rw [List.map_set, List.map_set]
            rw [hat6] at ho6
            have HO6 := Lib.hid ho6; have HD6 := Lib.hid hd6; have HB6 := Lib.hid hb6; have HW6 := Lib.hid hw6
            clear ho4 ho5 ho6 hd6 hb6 hw6 hbk4 hbk5 hgB o4 hat6
            go_wp2_with fail
            rw [← HW6.out]
            have hc := copy_any w6 _ _ _ _ HD6.out (by show L2.length ≤ _; omega)
            have HC6 := Lib.hid hc
            clear hc
            refine HC6.out.mono ?_
            rintro e w7 ⟨vs, rfl, hs7, hb7⟩
            have hB7 := HB6.out.trans (hb7.mono HB6.out.size)
            have hap := (apart_new HD6.out hs7).symm
            have hd7 := HD6.out.below hb7 (Nat.le_refl _)
            have hc := d_crash (hs7.mono HB6.out.size) hB7.size rfl
            have HC7 := Lib.hid hc; have HB7 := Lib.hid hB7; have HD7 := Lib.hid (And.intro hd7 hap); have HO7 := Lib.hid (own_below HO6.out hb7)
            clear hc hB7 hap hd7 hs7 hb7
            go_wp2_with fail
            refine HC7.out.mono ?_
            rintro e w8 ⟨rfl, v8, o8⟩
            have hB8 := HB7.out.trans o8.below
            have hc := d_on o8.is hB8.size (fit_moves (by omega) (fun g hg => (HM2.out.size g hg).2) (by omega) (by omega)) (fun g hg => (HM2.out.size g hg).1) (A := none) (c := 0) (keep := []) (Rd.nil' none) (fun ad he => by cases he) (by simp) HON.out
            have HC8 := Lib.hid hc; have HB8 := Lib.hid hB8; have HD8 := Lib.hid (o8.other _ _ _ _ HD7.out.1 HD7.out.2); have HO8 := Lib.hid (own_keep HO7.out (fun g cs fz hh => o8.blk g cs 3 fz (by decide) (by decide) hh))
            clear hc hB8 o8
            go_wp2_with fail
            refine HC8.out.mono ?_
            rintro e w9 ⟨rfl, v9, o9⟩
            have HB9 := Lib.hid (HB8.out.trans o9.below); have HS9 := Lib.hid o9.is; have HD9 := Lib.hid (o9.other _ _ _ _ HD8.out.1 HD8.out.2).1; have HO9 := Lib.hid (own_keep HO8.out (fun g cs fz hh => o9.blk g cs 3 fz (by decide) (by decide) hh))
            clear o9
            go_wp2_with fail
            refine (name_any dst (by omega) _).mono ?_
            rintro e w10 ⟨rfl, hb10⟩
            have hc := d_read (HS9.out.below hb10 (Nat.le_refl _)) (fit_moves (by omega) HG3.out (by omega) (by omega)) HRD.out
            have HC10 := Lib.hid hc; have HB10 := Lib.hid (HB9.out.trans (hb10.mono HB9.out.size)); have HD10 := Lib.hid (HD9.out.below hb10 (Nat.le_refl _)); have HO10 := Lib.hid (own_below HO9.out hb10)
            clear hc hb10
            go_wp2_with fail
            refine HC10.out.mono ?_
            rintro e w11 ⟨bv, rfl, hbv, hb11⟩
            have hB11 := HB10.out.trans (hb11.mono HB10.out.size)
            obtain ⟨ad, x, A', c', rfl, hx, hx1, hcc, hadl2, hc11, hbt⟩ := HX.out.at_ hB11 hkN
            have hxb : x.2 = b := by
              have h1 := HLB.out
              rw [List.getElem?_map, hx] at h1
              injection h1
            obtain ⟨Ab, nb, cb, hbve⟩ : ∃ A n c, bv = Value.slice A n c := by
              obtain ⟨A, c, h, _⟩ := hbv
              exact ⟨A, _, c, h⟩
            subst hbve
            obtain ⟨nx, hnx⟩ : ∃ nx, x.2.size = nx := ⟨_, rfl⟩
            rw [hnx] at hc11 hbt
            rw [hxb] at hbt
            have s1 : w11.drew.cell? (ad.add k) = some (.slice A' nx c') := hc11
            have s2 := BtR.conv (w := w11.drew) hbv.btr
            have s3 := BtR.conv (w := w11.drew) hbt
            have HB11 := Lib.hid hB11; have HD11 := Lib.hid (HD10.out.below hb11 (Nat.le_refl _)); have HO11 := Lib.hid (own_below HO10.out hb11)
            clear hB11 hx hx1 hbt hbv hb11 hxb hnx
            go_wp2_with fail
            go_region_held3 (fun w' => w'.cell? (ad.add k) = some (.slice A' nx c') ∧ (convert 22 9 (.slice Ab nb cb)).run Try.prog w' = .ok (.string b) w' ∧ (convert 22 9 (.slice A' nx c')).run Try.prog w' = .ok (.string b) w') (first | exact ⟨s1, s2, s3⟩) (fail)
            all_goals
              go_wp2
              go_roundg gf
              case measure => omega
              case rel => exact ⟨i + 1, n + 1, (at_.set src (-1)).set dst (k : Int), L2, v4, by go_num, by omega, HD11.out, HB11.out.drew, HM2.out, by rw [List.length_set, List.length_set]; exact HAL.out, by omega, HO11.out⟩
    | succ gf =>
      obtain ⟨hD, hB, hM, hal, hu, hn, hO⟩ := hst
      obtain ⟨ad, x, A', c', rfl, hx, hx1, hcc, hadl, hc, hbt⟩ := HX.out.at_ hB (i := i) (by omega)
      have hiI : (i : Int) < (xs.length : Int) := by omega
      have hir : i < xs.length := by omega
      have hxb : (xs.map (·.2))[i]? = some x.2 := by rw [List.getElem?_map, hx]; rfl
      have hadr : (ad.add i).block < wr.heap.size := by rw [block_of_add]; have := hB.size; omega
      have hadw : (ad.add i).block < w.heap.size := by rw [block_of_add]; exact hadl
      have HADR := Lib.hid hadr; have HADW := Lib.hid hadw
      obtain ⟨Aa, ca, rfl⟩ := own_shape hO
      have HD := Lib.hid hD; have HB := Lib.hid hB; have HM := Lib.hid hM; have HBT := Lib.hid hbt; have HO := Lib.hid hO; have HAL := Lib.hid hal; have HXB := Lib.hid hxb
      clear hD hB hM hbt hx hx1 hO hal hxb hadr hadw
      by_cases hbig : 100 < x.2.size
      · have hbigI : (100 : Int) < (x.2.size : Int) := by omega
        go_wp2_with fail
        refine (works_any _).mono ?_
        rintro e w2 ⟨rfl, hb2⟩
        have HB2 := Lib.hid (HB.out.trans (hb2.mono HB.out.size))
        clear hb2
        go_wp2
        go_ret
        exact ⟨rfl, HB2.out⟩
      · have hbigI : ¬ (100 : Int) < (x.2.size : Int) := by omega
        have hal := HAL.out
        obtain ⟨L2, hE, hM2, hu2⟩ := moves_put (q := 2000) (n := n) HM.out (by rw [List.length_map]; omega) (by decide) (b := x.2) (by rw [hal]; exact HXB.out) (by omega) (by rw [hal]; exact hu)
        rw [hal] at hE hM2 hu2
        have hfew := HM.out.few
        have hfew2 := hM2.few
        rw [List.length_append, hal] at hfew2
        rw [hal] at hfew
        simp only [List.length_cons, List.length_nil] at hfew2
        have HE := Lib.hid hE; have HM2 := Lib.hid hM2
        clear hE hM2 hal
        go_wp2_with fail
        go_region_held3 (fun w' => w'.cell? (ad.add i) = some (.slice A' x.2.size c')) (go_keep)
          (first
            | ((go_at_call 15; refine (name_any i (by omega) _).mono ?_; rintro e w2 ⟨rfl, hb2⟩; have k2 := (hb2.cell (p := ad.add i) HADR.out).trans hc; have HB2 := Lib.hid (((Below.refl wr.heap.size wr).drew).trans hb2); clear hb2))
            | ((go_at_call 9; refine (d_append (HD.out.below HB2.out (Nat.le_refl _)) (Nat.le_trans HB.out.size HB2.out.size) (fit_moves (by omega) (fun g hg => (HM.out.size g hg).2) (by omega) (by omega)) (by show usedL L ≤ _; omega) (HBT.out.below HB2.out) (by omega) HE.out).mono ?_; rintro e w3 ⟨rfl, v3, o3⟩; have k3 := (o3.below.cell (p := ad.add i) HADW.out).trans k2; have HO3 := Lib.hid o3; clear o3)))
        have hb3 := (HB.out.trans (HB2.out.mono HB.out.size)).trans HO3.out.below
        have ho3 := own_keep (own_below HO.out HB2.out) (fun g cs fz hh => HO3.out.blk g cs 3 fz (by decide) (by decide) hh)
        have hsz3 := hb3.size
        have HB3 := Lib.hid hb3; have HOW3 := Lib.hid ho3
        clear hb3 ho3
        go_wp2_with (at_builtin; refine wpList_app _ w3 rfl (.tmp 56) (.tmp 58) 31 rfl w.heap.size 3 i0 (.int .i64 0) 1 8 Try.underlying31 HI0.out HZ0.out hz1 hz2 rfl (by decide) (by decide) _ i _ rfl HOW3 [.int .i64 i] rfl rfl rfl _ rfl rfl (by omega) hsz3 ?_; intro v4 w4 h2 h3 h4; have HO4 := Lib.hid h2.out; have HG4 := Lib.hid h3.out; have HB4 := Lib.hid h4.out; clear h2 h3 h4)
        go_roundg gf
        case measure => omega
        case rel =>
          refine ⟨i + 1, n + 1, at_ ++ [(i : Int)], L2, v3, by go_num, by omega, ?_⟩
          refine ⟨HO3.out.is.ints (ints_grown HOW3.out HG4.out), HB3.out.trans HB4.out, HM2.out, by rw [List.length_append, HAL.out]; rfl, by omega, by omega, ?_⟩
          rw [List.map_append]
          exact HO4.out
end Go.Proofs.Ytcfcfpphhaknnaa
