/- The laws' bound on rows of calls: large. The laws' short test of the program: works. -/
import Derived.Test.YthmcimpdehgaoaaGreatDoorPk35
import Derived.Deep.LoopGhost
import Derived.Deep.QuietTactic
import Derived.BigQuiet
import Derived.IntWalk
import Derived.Test.YthmcimpdehgaoaaGreatDoorPk34
import Derived.Test.YthmcimpdehgaoaaGreatDoorPk21
import Derived.Lib.SlBytesConst
import Derived.Deep.DeepCutAuto
namespace Go.Proofs.YthmcimpdehgaoaaGreatDoor
open Go.RowKit Go.Maps

def wCall (c : CallC) : Int := 1 + min (c.name.size : Int) 5001 + min (c.b.size : Int) 5001 + min (c.keep.length : Int) 5001
def wSum (l : List CallC) : Int := (l.map wCall).sum
def bSum (l : List CallC) : Nat := (l.map (·.b.size)).sum
theorem wCall_pos (c : CallC) : 1 ≤ wCall c := by unfold wCall; omega
theorem wSum_snoc {l : List CallC} {i : Nat} {c : CallC} (h : l[i]? = some c) : wSum (l.take (i + 1)) = wSum (l.take i) + wCall c := by
  unfold wSum
  rw [List.take_add_one, h, Option.toList_some, List.map_append, List.sum_append]
  simp
theorem bSum_snoc {l : List CallC} {i : Nat} {c : CallC} (h : l[i]? = some c) : bSum (l.take (i + 1)) = bSum (l.take i) + c.b.size := by
  unfold bSum
  rw [List.take_add_one, h, Option.toList_some, List.map_append, List.sum_append]
  simp
theorem wSum_small : ∀ (l : List CallC), wSum l ≤ 5000 → (∀ c ∈ l, c.name.size ≤ 5000 ∧ c.b.size ≤ 5000 ∧ c.keep.length ≤ 5000) ∧ (bSum l : Int) ≤ wSum l ∧ 0 ≤ wSum l
  | [], _ => ⟨(fun _ h => by cases h), Int.le_refl _, Int.le_refl _⟩
  | c :: r, h => by
    have hw : wSum (c :: r) = wCall c + wSum r := by unfold wSum; rw [List.map_cons, List.sum_cons]
    have hb : bSum (c :: r) = c.b.size + bSum r := by unfold bSum; rw [List.map_cons, List.sum_cons]
    have hp := wCall_pos c
    obtain ⟨h1, h2, h3⟩ := wSum_small r (by omega)
    have hc : wCall c ≤ 5000 := by omega
    unfold wCall at hc hw
    refine ⟨fun x hx => ?_, by omega, by omega⟩
    rcases List.mem_cons.1 hx with rfl | hx
    · exact ⟨by omega, by omega, by omega⟩
    · exact h1 x hx
def SmallC (l : List CallC) : Prop := l.length ≤ 60 ∧ (∀ c ∈ l, c.name.size ≤ 5000 ∧ c.b.size ≤ 5000 ∧ c.keep.length ≤ 5000) ∧ bSum l ≤ 5000
/-- how large ends -/
def LargeP (l : List CallC) (w : World) (e : Ending) (w' : World) : Prop := ∃ b : Bool, e = .returned (.bool b) ∧ Below w.heap.size w w' ∧ (b = false → SmallC l)
def LgInv (l : List CallC) (i : Nat) (n : Int) : Prop := n = wSum (l.take i)
theorem LgInv.step {l : List CallC} {i : Nat} {n n' : Int} {c : CallC} (h : LgInv l i n) (hc : l[i]? = some c) (hn : n' = n + wCall c) : LgInv l (i + 1) n' := by
  unfold LgInv at *
  rw [wSum_snoc hc, hn, h]
theorem LgInv.done {l : List CallC} {n : Int} (h : LgInv l l.length n) (hn : n ≤ 5000) (hl : l.length ≤ 60) : SmallC l := by
  unfold LgInv at h
  rw [List.take_length] at h
  obtain ⟨h1, h2, h3⟩ := wSum_small l (by omega)
  exact ⟨hl, h1, by omega⟩
set_option maxRecDepth 100000 in
set_option maxHeartbeats 4000000 in
theorem large_any (w : World) (A : Option Addr) (c : Nat) (l : List CallC) (hA : CallsA w A l) :
    Calls Tryz.prog 8 #[.slice A l.length c] w (LargeP l w) := by
  have HA := Lib.hid hA
  clear hA
  by_cases hl : l.length ≤ 60
  · have hlI : ¬ (60 : Int) < (l.length : Int) := by omega
    go_enter Tryz.func8, Tryz.ntmps8
    go_wp2
    go_loopg [3, 4] l.length (fun gf vn vi wr => ∃ (i : Nat) (n : Int), vn = .int .i64 n ∧ vi = .int .i64 i ∧ i + gf = l.length ∧ 0 ≤ n ∧ n ≤ 20004 ∧ LgInv l i n ∧ Below w.heap.size w wr)
    case atStart => exact ⟨0, 0, rfl, rfl, by omega, by decide, by decide, rfl, Below.refl _ _⟩
    case round =>
      obtain ⟨i, n, rfl, rfl, hi, hn0, hn1, hinv, hb⟩ := hrel
      have HB := Lib.hid hb; have HI := Lib.hid hinv
      clear hb hinv
      cases gk with
      | zero =>
        obtain rfl : i = l.length := by omega
        clear hi
        by_cases hn : n ≤ 5000
        · have hnb : decide ((5000 : Int) < n) = false := decide_eq_false (by omega)
          have hn' : ¬ (5000 : Int) < n := by omega
          go_wp2
          go_ret
          exact ⟨false, rfl, HB.out, fun _ => HI.out.done hn hl⟩
        · have hnb : decide ((5000 : Int) < n) = true := decide_eq_true (by omega)
          have hn' : (5000 : Int) < n := by omega
          go_wp2
          go_ret
          exact ⟨true, rfl, HB.out, fun e => by cases e⟩
      | succ gf =>
        obtain ⟨x, hx⟩ : ∃ x, l[i]? = some x := ⟨_, List.getElem?_eq_getElem (by omega)⟩
        obtain ⟨bb, oo, rfl, hlt, hcl⟩ := (HA.out.below HB.out) (by omega)
        have hcx := hcl i x hx
        have hiI : (i : Int) < (l.length : Int) := by omega
        have hcn := hcx.name
        obtain ⟨A1, cc1, hcb, -⟩ := hcx.bs
        obtain ⟨A2, cc2, hck, -⟩ := hcx.keep
        have HX := Lib.hid hx
        clear hcx hcl hx
        by_cases hn : n ≤ 5000
        · obtain ⟨x1, hx1⟩ : ∃ x1, min (x.name.size : Int) 5001 = x1 := ⟨_, rfl⟩
          obtain ⟨x2, hx2⟩ : ∃ x2, min (x.b.size : Int) 5001 = x2 := ⟨_, rfl⟩
          obtain ⟨x3, hx3⟩ : ∃ x3, min (x.keep.length : Int) 5001 = x3 := ⟨_, rfl⟩
          have b1 : 0 ≤ x1 ∧ x1 ≤ 5001 := by omega
          have b2 : 0 ≤ x2 ∧ x2 ≤ 5001 := by omega
          have b3 : 0 ≤ x3 ∧ x3 ≤ 5001 := by omega
          have hst := HI.out.step HX.out (n' := n + 1 + x1 + x2 + x3) (by unfold wCall; omega)
          have HST := Lib.hid hst
          have hle : n + 1 + x1 + x2 + x3 ≤ 20004 ∧ 0 ≤ n + 1 + x1 + x2 + x3 := by omega
          have hdb : decide (n ≤ (5000 : Int)) = true := decide_eq_true hn
          have hm1 : min (5001 : Int) (x.name.size : Int) = x1 := by omega
          have hm2 : min (5001 : Int) (x.b.size : Int) = x2 := by omega
          have hm3 : min (5001 : Int) (x.keep.length : Int) = x3 := by omega
          have w1 : IntKind.i64.wrap (n + 1) = n + 1 := IntWalk.i64_in _ (by omega)
          have w2 : IntKind.i64.wrap (n + 1 + x1) = n + 1 + x1 := IntWalk.i64_in _ (by omega)
          have w3 : IntKind.i64.wrap (n + 1 + x1 + x2) = n + 1 + x1 + x2 := IntWalk.i64_in _ (by omega)
          have w4 : IntKind.i64.wrap (n + 1 + x1 + x2 + x3) = n + 1 + x1 + x2 + x3 := IntWalk.i64_in _ (by omega)
          clear hst
          go_upto_region 7 with (fail)
          go_quiet (fail)
          clear w1 w2 w3 w4
          go_wp2
          go_roundg gf
          case measure => omega
          case rel => exact ⟨i + 1, n + 1 + x1 + x2 + x3, rfl, by go_num, by omega, hle.2, hle.1, HST.out, below_drewN HB.out _⟩
        · have hdb : decide (n ≤ (5000 : Int)) = false := decide_eq_false hn
          have hn' : (5000 : Int) < n := by omega
          have hnb : decide ((5000 : Int) < n) = true := decide_eq_true (by omega)
          go_wp2
          go_ret
          exact ⟨true, rfl, HB.out, fun e => by cases e⟩
  · have hlI : (60 : Int) < (l.length : Int) := by omega
    go_enter Tryz.func8, Tryz.ntmps8
    go_wp2
    go_ret
    exact ⟨true, rfl, Below.refl _ _, fun e => by cases e⟩
end Go.Proofs.YthmcimpdehgaoaaGreatDoor
namespace Go.Proofs.YthmcimpdehgaoaaGreatDoor
open Go.RowKit Go.Maps

theorem bt_const (W : World) (s : ByteArray) (cs : Array Value) (fz : Nat × Nat) (hcs : cs = (ucells s).toArray) : Bt (W.alloc (.cells cs 5 fz)) (.slice (some ⟨W.heap.size, 0, none⟩) s.size s.size) s :=
  ⟨_, _, rfl, Nat.le_refl _, fun _ => ⟨W.heap.size, 0, _, _, rfl, heap_alloc_new W _, fun j hj => by rw [hcs, Nat.zero_add, List.getElem?_toArray]; exact ucells_at s j hj⟩⟩
section
variable {w wr : World} {p gs K Z : Nat} {v : Value} {q n l : Int} {M : MapC} {T L : List FileD} {off : Bool}
theorem kc_steps (a : KC w wr p v K Z q M T L n l false) (hn : n ≤ 1000000) (hT : Tb w.heap.size w) (hV : Ev w.heap.size w) (hs : CkSt wr gs p) :
    Calls Tryz.prog 14 #[.pointer (some ⟨gs, 0, none⟩)] wr fun e w' => ∃ v', e = .returned v' ∧ w'.ownsRow wr.heap.size 3 1 v' (keysC K M).length (intsN (keysC K M)) ∧ Below wr.heap.size wr w' := by
  have := csteps_any wr w.heap.size p gs v _ a.is hs (a.fit hn).fit a.inv.names (hT.at_ a.below) (hV.at_ a.below)
  rw [steps_inv a.inv q n l] at this
  exact this
theorem kc_newest (a : KC w wr p v K Z q M T L n l false) (hn : n ≤ 1000000) (hT : Tb w.heap.size w) (hV : Ev w.heap.size w) (hs : CkSt wr gs p) :
    Calls Tryz.prog 16 #[.pointer (some ⟨gs, 0, none⟩)] wr fun e w' => e = .returned (.tuple #[.int .i64 (newL (keysC K M)).1, .bool (newL (keysC K M)).2]) ∧ Below wr.heap.size wr w' := by
  have := cnewest_any wr w.heap.size p gs v _ a.is hs (a.fit hn).fit a.inv.names (hT.at_ a.below) (hV.at_ a.below)
  rw [newestC_eq, steps_inv a.inv q n l] at this
  exact this
end
/-- a call that cannot fail: the power never goes -/
theorem KcOpen.ok {w wr : World} {p K Z : Nat} {q n : Int} {M : MapC} {T L : List FileD} {e : Ending} {w' : World} (h : KcOpen w wr p K Z q M T L n (-1) e w') :
    ∃ gs L' n' v', e = .returned (.tuple #[.pointer (some ⟨gs, 0, none⟩), .int .i64 0]) ∧ KC w w' p v' K Z q M [] L' n' (-1) false ∧ CkSt w' gs p ∧ w.heap.size ≤ gs ∧ n' ≤ n + 1 ∧ KpB wr w' := by
  rcases h with ⟨gs, L', n', l', v', h1, h2, h3, h4, h5, h6, h7⟩ | ⟨v', h1, -⟩
  · rw [h6 rfl] at h2
    exact ⟨gs, L', n', v', h1, h2, h3, h4, h5, h7⟩
  · exact absurd rfl h1
theorem KcWrite.ok {w wr : World} {p gs K Z k : Nat} {b : ByteArray} {q n : Int} {M : MapC} {e : Ending} {w' : World} (h : KcWrite w wr p gs K Z q M k b n (-1) e w') :
    ∃ L' n' v', e = .returned (.int .i64 0) ∧ KC w w' p v' K Z q (putC M k b) [] L' n' (-1) false ∧ CkSt w' gs p ∧ n' ≤ n + 4 ∧ KpB wr w' := by
  rcases h with ⟨L', n', l', v', h1, h2, h3, h4, h5, h6⟩ | ⟨T', L', n', v', h1, -⟩
  · rw [h5 rfl] at h2
    exact ⟨L', n', v', h1, h2, h3, h4, h6⟩
  · exact absurd rfl h1
theorem KcDrop.ok {w wr : World} {p gs K Z : Nat} {below : Int} {q n : Int} {M : MapC} {T : List FileD} {e : Ending} {w' : World} (h : KcDrop w wr p gs K Z q M T below n (-1) e w') :
    ∃ L' n' v', e = .returned (.int .i64 0) ∧ KC w w' p v' K Z q (dropM M below) T L' n' (-1) false ∧ CkSt w' gs p ∧ n' ≤ n + K ∧ KpB wr w' := by
  rcases h with ⟨L', n', l', v', h1, h2, h3, h4, h5, h6⟩ | ⟨M', L', n', v', h1, -⟩
  · rw [h5 rfl] at h2
    exact ⟨L', n', v', h1, h2, h3, h4, h6⟩
  · exact absurd rfl h1
def wM : MapC := putC (putC (fun _ => none) 3 ⟨#[97, 98]⟩) 10 ⟨#[99, 100]⟩
theorem wM_keys : keysC 11 wM = [3, 10] := rfl
theorem wM_drop : keysC 11 (dropM wM 10) = [10] := rfl
theorem name10 : nameC 10 = ⟨#[99, 107, 46, 49, 48]⟩ := by
  have h : Lib.decDigits 10 = [49, 48] := by
    rw [Lib.decDigits, dif_neg (by decide), show 10 / 10 = 1 from rfl, Lib.decDigits, dif_pos (by decide)]; rfl
  unfold nameC
  rw [h]; rfl
theorem int_at {w : World} {b c : Nat} {A : Option Addr} {l : List Nat} (h : w.ownsRow b 3 1 (.slice A l.length c) l.length (intsN l)) {k n : Nat} (hk : l[k]? = some n) : ∃ g, A = some ⟨g, 0, none⟩ ∧ w.cell? ⟨g, k, none⟩ = some (Value.int .i64 (n : Int)) := by
  obtain ⟨g, cur, hr⟩ := RowI.of_own h
  exact ⟨g, hr.at_ hk⟩
set_option maxRecDepth 100000 in
set_option maxHeartbeats 8000000 in
theorem works_any (w : World) (hT : Tb w.heap.size w) (hV : Ev w.heap.size w) : Calls Tryz.prog 9 #[] w fun e w' => e = .returned (.bool true) ∧ Below w.heap.size w w' := by
  have HT := Lib.hid hT; have HV := Lib.hid hV
  clear hT hV
  go_enter Tryz.func9, Tryz.ntmps9
  go_wp2_with fail
  refine (kc_new (K := 11) (Z := 2) ⟨by decide, by decide⟩ 1000 (by decide) _).mono ?_
  rintro e w1 ⟨rfl, h1⟩
  have HC := Lib.hid (kc_open h1 (by decide))
  clear h1
  go_wp2_with fail
  refine HC.out.mono ?_
  intro e w2 hP
  obtain ⟨gs, L2, n2, v2, rfl, h2, hs2, hg2, hn2, -⟩ := hP.ok
  have hc1 : (convert 33 33 (.slice (some ⟨w2.heap.size, 0, none⟩) 2 2)).run Tryz.prog (w2.alloc (.cells #[.int .u8 97, .int .u8 98] 5)) = .ok (.slice (some ⟨w2.heap.size, 0, none⟩) 2 2) (w2.alloc (.cells #[.int .u8 97, .int .u8 98] 5 (2, 3))) := Lib.run_convert_bytes_const w2 33 5 #[.int .u8 97, .int .u8 98] 2 2 Tryz.underlying33 Tryz.underlying5
  have hb2 := (Below.refl w2.heap.size w2).alloc (Nat.le_refl _) (.cells #[.int .u8 97, .int .u8 98] 5 (2, 3))
  have HW := Lib.hid (kc_write (k := 3) (b := ⟨#[97, 98]⟩) (h2.below_ hb2) (by omega) HT.out (hs2.below hb2) (by decide) (by decide) (BtX.of_bt (bt_const w2 ⟨#[97, 98]⟩ #[.int .u8 97, .int .u8 98] (2, 3) rfl)))
  clear h2 hs2 hP HC hb2
  go_wp2_with fail
  clear hc1
  refine HW.out.mono ?_
  intro e w3 hP
  obtain ⟨L3, n3, v3, rfl, h3, hs3, hn3, -⟩ := hP.ok
  have hc1 : (convert 33 33 (.slice (some ⟨w3.heap.size, 0, none⟩) 2 2)).run Tryz.prog (w3.alloc (.cells #[.int .u8 99, .int .u8 100] 5)) = .ok (.slice (some ⟨w3.heap.size, 0, none⟩) 2 2) (w3.alloc (.cells #[.int .u8 99, .int .u8 100] 5 (2, 3))) := Lib.run_convert_bytes_const w3 33 5 #[.int .u8 99, .int .u8 100] 2 2 Tryz.underlying33 Tryz.underlying5
  have hb3 := (Below.refl w3.heap.size w3).alloc (Nat.le_refl _) (.cells #[.int .u8 99, .int .u8 100] 5 (2, 3))
  have HW3 := Lib.hid (kc_write (k := 10) (b := ⟨#[99, 100]⟩) (h3.below_ hb3) (by omega) HT.out (hs3.below hb3) (by decide) (by decide) (BtX.of_bt (bt_const w3 ⟨#[99, 100]⟩ #[.int .u8 99, .int .u8 100] (2, 3) rfl)))
  clear h3 hs3 hP HW hb3
  go_wp2_with fail
  clear hc1
  refine HW3.out.mono ?_
  intro e w4 hP
  obtain ⟨L4, n4, v4, rfl, h4, hs4, hn4, -⟩ := hP.ok
  have h4 : KC w w4 w.heap.size v4 11 2 1000 wM [] L4 n4 (-1) false := h4
  have hst := kc_steps h4 (by omega) HT.out HV.out hs4
  rw [wM_keys] at hst
  have HST := Lib.hid hst; have H4 := Lib.hid h4; have HS4 := Lib.hid hs4
  clear h4 hs4 hP HW3 hst
  go_wp2_with fail
  refine HST.out.mono ?_
  rintro e w5 ⟨v5, rfl, ho5, hb5⟩
  obtain ⟨A5, c5, rfl⟩ := own_shape ho5
  have hnw := kc_newest (H4.out.below_ hb5) (by omega) HT.out HV.out (HS4.out.below hb5)
  rw [wM_keys] at hnw
  have HNW := Lib.hid hnw; have H5 := Lib.hid (H4.out.below_ hb5); have HS5 := Lib.hid (HS4.out.below hb5); have HO5 := Lib.hid ho5
  clear hnw ho5 hb5 HST H4 HS4
  go_wp2_with fail
  refine HNW.out.mono ?_
  rintro e w6 ⟨rfl, hb6⟩
  have HRD := Lib.hid (kc_read (H5.out.below_ hb6) (by omega) HT.out (HS5.out.below hb6) 3 (by decide)); have H6 := Lib.hid (H5.out.below_ hb6); have HS6 := Lib.hid (HS5.out.below hb6); have HO6 := Lib.hid (ownC_below HO5.out hb6)
  clear hb6 HNW H5 HS5 HO5
  go_wp2_with fail
  refine HRD.out.mono ?_
  rintro e w7 ⟨v7, rfl, ho7, hb7⟩
  have ho7 : w7.ownsRow w6.heap.size 5 1 v7 (⟨#[97, 98]⟩ : ByteArray).size (ucells ⟨#[97, 98]⟩) := ho7
  have hbt7 := Bt.of_own ho7
  obtain ⟨A7, c7, rfl⟩ := own_shape ho7
  have HDR := Lib.hid (kc_drop (H6.out.below_ hb7) (by omega) HT.out HV.out (HS6.out.below hb7) 10); have HO7 := Lib.hid (ownC_below HO6.out hb7); have HB7 := Lib.hid hbt7
  clear hb7 ho7 hbt7 HRD H6 HS6 HO6
  dsimp only [rdC, wM, putC]
  go_wp2_with fail
  refine HDR.out.mono ?_
  intro e w8 hP
  obtain ⟨L8, n8, v8, rfl, h8, hs8, hn8, hk8⟩ := hP.ok
  have hst := kc_steps h8 (by omega) HT.out HV.out hs8
  rw [wM_drop] at hst
  have HST := Lib.hid hst; have H8 := Lib.hid h8; have HO8 := Lib.hid (hk8.own HO7.out (by decide) (by decide)); have HB8 := Lib.hid (show Bt w8 _ _ from HB7.out.keep fun blk cs fz hh => hk8 blk cs _ fz (by decide) (by decide) hh)
  clear h8 hs8 hk8 hP hst HDR HO7 HB7
  go_wp2_with fail
  refine HST.out.mono ?_
  rintro e w9 ⟨v9, rfl, ho9, hb9⟩
  obtain ⟨A9, c9, rfl⟩ := own_shape ho9
  have h9 := H8.out.below_ hb9
  have hrr : (⟨L8, 1000, n8, -1, false⟩ : DiskD).read (nameC 10) = (0, fileC 10 ⟨#[99, 100]⟩) := read_mem h9.inv.sorted (h9.inv.file (k := 10) (b := ⟨#[99, 100]⟩) rfl) (fileK_bad (by decide) _)
  rw [name10] at hrr
  have hrd := d_read h9.is (h9.fit (by omega)).fit hrr
  have HRD := Lib.hid hrd; have HO9 := Lib.hid (ownC_below HO8.out hb9); have HB9 := Lib.hid (HB8.out.below hb9); have HP9 := Lib.hid ho9; have HBW := Lib.hid h9.below
  clear hrd hrr h9 ho9 hb9 HST H8 HO8 HB8
  go_wp2_with fail
  refine HRD.out.mono ?_
  rintro e w10 ⟨v10, rfl, hbt, hb10⟩
  obtain ⟨A10, c10, rfl, -, -⟩ := id hbt
  have hsz : (fileC 10 ⟨#[99, 100]⟩).size = 19 := fileC_size 10 _
  rw [hsz]
  obtain ⟨g5, rfl, x0⟩ := int_at (ownC_below HO9.out hb10) (k := 0) (n := 3) rfl
  obtain ⟨g5', e5, x1⟩ := int_at (ownC_below HO9.out hb10) (k := 1) (n := 10) rfl
  injection e5 with e5
  injection e5 with e5
  subst e5
  obtain ⟨g9, rfl, y0⟩ := int_at (ownC_below HP9.out hb10) (k := 0) (n := 10) rfl
  have hcv : (convert 33 9 (.slice A7 2 c7)).run Tryz.prog w10 = .ok (.string ⟨#[97, 98]⟩) w10 := (HB9.out.below hb10).conv
  have HB := Lib.hid (HBW.out.trans (hb10.mono HBW.out.size))
  clear hbt hb10 HRD HO9 HP9 HB9 HBW
  go_wp2
  go_ret
  exact ⟨rfl, HB.out⟩
end Go.Proofs.YthmcimpdehgaoaaGreatDoor
