/- The law of checkpoints that are dropped: its walk. -/
import Derived.Test.YthmcimpdehgaoaaGreatDoorCkRw
import Derived.Test.YthmcimpdehgaoaaGreatDoorOpenS
import Derived.Deep.DeepCutAuto
namespace Go.Proofs.YthmcimpdehgaoaaGreatDoor
open Go.RowKit Go.Maps

/-- a row of []byte that came in -/
def Rows2 (w : World) (A : Option Addr) (rows : List (Value × ByteArray)) : Prop := Rd w 1 A rows.length (rows.map (·.1)) ∧ ∀ x ∈ rows, BtR w x.1 x.2
theorem Rows2.below {w w' : World} {A : Option Addr} {rows : List (Value × ByteArray)} (h : Rows2 w A rows) (hb : Below w.heap.size w w') : Rows2 w' A rows := ⟨h.1.below hb, fun x hx => (h.2 x hx).below hb⟩
theorem rows2_of {W : World} {A : Option Addr} {xs : List (Value × List UInt8)} (h : 0 < xs.length → ∃ ad, A = some ad ∧ ad.block < W.heap.size ∧ ∀ j x, xs[j]? = some x → W.cell? (ad.add j) = some x.1)
    (hy : ∀ x ∈ xs, ∃ A' c', x.1 = .slice A' x.2.length c' ∧ x.2.length ≤ c' ∧ BytesAt W A' x.2) : Rows2 W A (xs.map fun x => (x.1, ⟨x.2.toArray⟩)) := by
  refine ⟨⟨by simp, fun h0 => ?_⟩, fun x hx => ?_⟩
  · rw [List.length_map] at h0
    obtain ⟨ad, hA, hb, hc⟩ := h h0
    refine ⟨ad, hA, hb, fun j u hu => ?_⟩
    rw [List.map_map, List.getElem?_map, Option.map_eq_some_iff] at hu
    obtain ⟨x, hx, rfl⟩ := hu
    exact hc j x hx
  · obtain ⟨x0, hx0, rfl⟩ := List.mem_map.1 hx
    obtain ⟨A', c', h1, h2, h3⟩ := hy x0 hx0
    show BtR W x0.1 _
    rw [h1]
    exact btr_of_cells h2 h3
theorem BtX.nil (B : Nat) (w : World) : BtX B w (.slice none 0 0) ByteArray.empty := fun w' _ _ => (bt_nil w').btr
def lastC (l : List Nat) : Int := match l.getLast? with
  | none => -1
  | some n => (n : Int)
theorem lastC_snoc (l : List Nat) (x : Nat) : lastC (l ++ [x]) = (x : Int) := by unfold lastC; rw [List.getLast?_concat]
theorem newL_last (l : List Nat) : (l.length = 0 ∧ newL l = (0, false)) ∨ (0 < l.length ∧ newL l = (lastC l, true)) := by
  unfold newL lastC
  cases h : l.getLast? with
  | none => exact .inl ⟨by rw [List.getLast?_eq_none_iff] at h; rw [h]; rfl, rfl⟩
  | some n => exact .inr ⟨List.length_pos_iff.2 (fun e => by rw [e] at h; cases h), rfl⟩
theorem keysC_snoc (K : Nat) (M : MapC) : keysC (K + 1) M = keysC K M ++ if (M K).isSome = true then [K] else [] := by
  unfold keysC
  rw [List.range_succ, List.filter_append, List.filter_cons, List.filter_nil]
theorem lit41B : ((List.range 41).map (isV fun _ => none)).toArray = (#[.bool false, .bool false, .bool false, .bool false, .bool false, .bool false, .bool false, .bool false, .bool false, .bool false, .bool false, .bool false, .bool false, .bool false, .bool false, .bool false, .bool false, .bool false, .bool false, .bool false, .bool false, .bool false, .bool false, .bool false, .bool false, .bool false, .bool false, .bool false, .bool false, .bool false, .bool false, .bool false, .bool false, .bool false, .bool false, .bool false, .bool false, .bool false, .bool false, .bool false, .bool false] : Array Value) := by kernel_rfl
theorem lit41S : ((List.range 41).map (hvV fun _ => none)).toArray = (#[.string ⟨#[]⟩, .string ⟨#[]⟩, .string ⟨#[]⟩, .string ⟨#[]⟩, .string ⟨#[]⟩, .string ⟨#[]⟩, .string ⟨#[]⟩, .string ⟨#[]⟩, .string ⟨#[]⟩, .string ⟨#[]⟩, .string ⟨#[]⟩, .string ⟨#[]⟩, .string ⟨#[]⟩, .string ⟨#[]⟩, .string ⟨#[]⟩, .string ⟨#[]⟩, .string ⟨#[]⟩, .string ⟨#[]⟩, .string ⟨#[]⟩, .string ⟨#[]⟩, .string ⟨#[]⟩, .string ⟨#[]⟩, .string ⟨#[]⟩, .string ⟨#[]⟩, .string ⟨#[]⟩, .string ⟨#[]⟩, .string ⟨#[]⟩, .string ⟨#[]⟩, .string ⟨#[]⟩, .string ⟨#[]⟩, .string ⟨#[]⟩, .string ⟨#[]⟩, .string ⟨#[]⟩, .string ⟨#[]⟩, .string ⟨#[]⟩, .string ⟨#[]⟩, .string ⟨#[]⟩, .string ⟨#[]⟩, .string ⟨#[]⟩, .string ⟨#[]⟩, .string ⟨#[]⟩] : Array Value) := by kernel_rfl
set_option maxRecDepth 100000 in
set_option maxHeartbeats 16000000 in
theorem cdrops_any (w : World) (A : Option Addr) (c : Nat) (sb : ByteArray) (hS : BtR w (.slice A sb.size c) sb) (A2 : Option Addr) (c2 : Nat) (rows : List (Value × ByteArray)) (hR : Rows2 w A2 rows) (below : Int) (hT0 : Tb w.heap.size w) (hV0 : Ev w.heap.size w) :
    Calls Tryz.prog 4 #[.slice A sb.size c, .slice A2 rows.length c2, .int .i64 below] w fun e w' => e = .returned (.bool true) ∧ Below w.heap.size w w' := by
  have hwk : ∀ W, Below w.heap.size w W → Calls Tryz.prog 9 #[] W fun e w' => e = .returned (.bool true) ∧ Below W.heap.size W w' := fun W hW => works_any W (hT0.at_ hW) (hV0.at_ hW)
  have HWK := Lib.hid hwk; have HS := Lib.hid hS; have HR := Lib.hid hR; have HT := Lib.hid hT0; have HV := Lib.hid hV0
  clear hwk hS hR hT0 hV0
  go_enter Tryz.func4, Tryz.ntmps4
  by_cases hl20 : sb.size ≤ 20
  case neg =>
    have hlI : (20 : Int) < (sb.size : Int) := by omega
    go_wp2_with fail
    refine (HWK.out _ (Below.refl _ _)).mono ?_
    rintro e w5 ⟨rfl, hb5⟩
    have HB5 := Lib.hid hb5
    clear hb5
    go_wp2
    go_ret
    exact ⟨rfl, HB5.out⟩
  have hlI : ¬ (20 : Int) < (sb.size : Int) := by omega
  go_wp2_with fail
  refine (kc_new (K := 41) (Z := 200) ⟨by decide, by decide⟩ 100000 (by decide) _).mono ?_
  rintro e w1 ⟨rfl, h1⟩
  have HC := Lib.hid (kc_open h1 (by decide))
  clear h1 hlI
  go_wp2_with fail
  refine HC.out.mono ?_
  intro e w2 hP
  obtain ⟨gs, L2, n2, v2, rfl, h2, hs2, hg2, hn2, -⟩ := hP.ok
  obtain ⟨p, hp⟩ : ∃ p, w.heap.size = p := ⟨_, rfl⟩
  have hg1 : w.heap.size ≤ w2.heap.size := h2.below.size
  have hbx := ((Below.refl w2.heap.size w2).alloc (Nat.le_refl _) (.cells #[.bool false, .bool false, .bool false, .bool false, .bool false, .bool false, .bool false, .bool false, .bool false, .bool false, .bool false, .bool false, .bool false, .bool false, .bool false, .bool false, .bool false, .bool false, .bool false, .bool false, .bool false, .bool false, .bool false, .bool false, .bool false, .bool false, .bool false, .bool false, .bool false, .bool false, .bool false, .bool false, .bool false, .bool false, .bool false, .bool false, .bool false, .bool false, .bool false, .bool false, .bool false] 44)).alloc (by simp) (.cells #[.string ⟨#[]⟩, .string ⟨#[]⟩, .string ⟨#[]⟩, .string ⟨#[]⟩, .string ⟨#[]⟩, .string ⟨#[]⟩, .string ⟨#[]⟩, .string ⟨#[]⟩, .string ⟨#[]⟩, .string ⟨#[]⟩, .string ⟨#[]⟩, .string ⟨#[]⟩, .string ⟨#[]⟩, .string ⟨#[]⟩, .string ⟨#[]⟩, .string ⟨#[]⟩, .string ⟨#[]⟩, .string ⟨#[]⟩, .string ⟨#[]⟩, .string ⟨#[]⟩, .string ⟨#[]⟩, .string ⟨#[]⟩, .string ⟨#[]⟩, .string ⟨#[]⟩, .string ⟨#[]⟩, .string ⟨#[]⟩, .string ⟨#[]⟩, .string ⟨#[]⟩, .string ⟨#[]⟩, .string ⟨#[]⟩, .string ⟨#[]⟩, .string ⟨#[]⟩, .string ⟨#[]⟩, .string ⟨#[]⟩, .string ⟨#[]⟩, .string ⟨#[]⟩, .string ⟨#[]⟩, .string ⟨#[]⟩, .string ⟨#[]⟩, .string ⟨#[]⟩, .string ⟨#[]⟩] 45)
  have hr1 : RowK ((w2.alloc (.cells #[.bool false, .bool false, .bool false, .bool false, .bool false, .bool false, .bool false, .bool false, .bool false, .bool false, .bool false, .bool false, .bool false, .bool false, .bool false, .bool false, .bool false, .bool false, .bool false, .bool false, .bool false, .bool false, .bool false, .bool false, .bool false, .bool false, .bool false, .bool false, .bool false, .bool false, .bool false, .bool false, .bool false, .bool false, .bool false, .bool false, .bool false, .bool false, .bool false, .bool false, .bool false] 44)).alloc (.cells #[.string ⟨#[]⟩, .string ⟨#[]⟩, .string ⟨#[]⟩, .string ⟨#[]⟩, .string ⟨#[]⟩, .string ⟨#[]⟩, .string ⟨#[]⟩, .string ⟨#[]⟩, .string ⟨#[]⟩, .string ⟨#[]⟩, .string ⟨#[]⟩, .string ⟨#[]⟩, .string ⟨#[]⟩, .string ⟨#[]⟩, .string ⟨#[]⟩, .string ⟨#[]⟩, .string ⟨#[]⟩, .string ⟨#[]⟩, .string ⟨#[]⟩, .string ⟨#[]⟩, .string ⟨#[]⟩, .string ⟨#[]⟩, .string ⟨#[]⟩, .string ⟨#[]⟩, .string ⟨#[]⟩, .string ⟨#[]⟩, .string ⟨#[]⟩, .string ⟨#[]⟩, .string ⟨#[]⟩, .string ⟨#[]⟩, .string ⟨#[]⟩, .string ⟨#[]⟩, .string ⟨#[]⟩, .string ⟨#[]⟩, .string ⟨#[]⟩, .string ⟨#[]⟩, .string ⟨#[]⟩, .string ⟨#[]⟩, .string ⟨#[]⟩, .string ⟨#[]⟩, .string ⟨#[]⟩] 45)) w2.heap.size 44 41 (isV fun _ => none) := by
    unfold RowK
    rw [lit41B]
    exact (Blk.new w2 44 _).alloc _
  have hr2 : RowK ((w2.alloc (.cells #[.bool false, .bool false, .bool false, .bool false, .bool false, .bool false, .bool false, .bool false, .bool false, .bool false, .bool false, .bool false, .bool false, .bool false, .bool false, .bool false, .bool false, .bool false, .bool false, .bool false, .bool false, .bool false, .bool false, .bool false, .bool false, .bool false, .bool false, .bool false, .bool false, .bool false, .bool false, .bool false, .bool false, .bool false, .bool false, .bool false, .bool false, .bool false, .bool false, .bool false, .bool false] 44)).alloc (.cells #[.string ⟨#[]⟩, .string ⟨#[]⟩, .string ⟨#[]⟩, .string ⟨#[]⟩, .string ⟨#[]⟩, .string ⟨#[]⟩, .string ⟨#[]⟩, .string ⟨#[]⟩, .string ⟨#[]⟩, .string ⟨#[]⟩, .string ⟨#[]⟩, .string ⟨#[]⟩, .string ⟨#[]⟩, .string ⟨#[]⟩, .string ⟨#[]⟩, .string ⟨#[]⟩, .string ⟨#[]⟩, .string ⟨#[]⟩, .string ⟨#[]⟩, .string ⟨#[]⟩, .string ⟨#[]⟩, .string ⟨#[]⟩, .string ⟨#[]⟩, .string ⟨#[]⟩, .string ⟨#[]⟩, .string ⟨#[]⟩, .string ⟨#[]⟩, .string ⟨#[]⟩, .string ⟨#[]⟩, .string ⟨#[]⟩, .string ⟨#[]⟩, .string ⟨#[]⟩, .string ⟨#[]⟩, .string ⟨#[]⟩, .string ⟨#[]⟩, .string ⟨#[]⟩, .string ⟨#[]⟩, .string ⟨#[]⟩, .string ⟨#[]⟩, .string ⟨#[]⟩, .string ⟨#[]⟩] 45)) (w2.heap.size + 1) 45 41 (hvV fun _ => none) := by
    have := Blk.new (w2.alloc (.cells #[.bool false, .bool false, .bool false, .bool false, .bool false, .bool false, .bool false, .bool false, .bool false, .bool false, .bool false, .bool false, .bool false, .bool false, .bool false, .bool false, .bool false, .bool false, .bool false, .bool false, .bool false, .bool false, .bool false, .bool false, .bool false, .bool false, .bool false, .bool false, .bool false, .bool false, .bool false, .bool false, .bool false, .bool false, .bool false, .bool false, .bool false, .bool false, .bool false, .bool false, .bool false] 44)) 45 #[.string ⟨#[]⟩, .string ⟨#[]⟩, .string ⟨#[]⟩, .string ⟨#[]⟩, .string ⟨#[]⟩, .string ⟨#[]⟩, .string ⟨#[]⟩, .string ⟨#[]⟩, .string ⟨#[]⟩, .string ⟨#[]⟩, .string ⟨#[]⟩, .string ⟨#[]⟩, .string ⟨#[]⟩, .string ⟨#[]⟩, .string ⟨#[]⟩, .string ⟨#[]⟩, .string ⟨#[]⟩, .string ⟨#[]⟩, .string ⟨#[]⟩, .string ⟨#[]⟩, .string ⟨#[]⟩, .string ⟨#[]⟩, .string ⟨#[]⟩, .string ⟨#[]⟩, .string ⟨#[]⟩, .string ⟨#[]⟩, .string ⟨#[]⟩, .string ⟨#[]⟩, .string ⟨#[]⟩, .string ⟨#[]⟩, .string ⟨#[]⟩, .string ⟨#[]⟩, .string ⟨#[]⟩, .string ⟨#[]⟩, .string ⟨#[]⟩, .string ⟨#[]⟩, .string ⟨#[]⟩, .string ⟨#[]⟩, .string ⟨#[]⟩, .string ⟨#[]⟩, .string ⟨#[]⟩]
    rw [World.size_alloc] at this
    unfold RowK
    rw [lit41S]
    exact this
  have H2 := Lib.hid (h2.below_ hbx); have HS2 := Lib.hid (hs2.below hbx); have HR1 := Lib.hid hr1; have HR2 := Lib.hid hr2; have HGS := Lib.hid hg2
  clear h2 hs2 hg2 hP HC hbx hr1 hr2
  rw [hp] at H2 HS2
  go_upto_region 9 with (fail)
  obtain ⟨w3, hw3⟩ : ∃ w3, (w2.alloc (.cells #[.bool false, .bool false, .bool false, .bool false, .bool false, .bool false, .bool false, .bool false, .bool false, .bool false, .bool false, .bool false, .bool false, .bool false, .bool false, .bool false, .bool false, .bool false, .bool false, .bool false, .bool false, .bool false, .bool false, .bool false, .bool false, .bool false, .bool false, .bool false, .bool false, .bool false, .bool false, .bool false, .bool false, .bool false, .bool false, .bool false, .bool false, .bool false, .bool false, .bool false, .bool false] 44)).alloc (.cells #[.string ⟨#[]⟩, .string ⟨#[]⟩, .string ⟨#[]⟩, .string ⟨#[]⟩, .string ⟨#[]⟩, .string ⟨#[]⟩, .string ⟨#[]⟩, .string ⟨#[]⟩, .string ⟨#[]⟩, .string ⟨#[]⟩, .string ⟨#[]⟩, .string ⟨#[]⟩, .string ⟨#[]⟩, .string ⟨#[]⟩, .string ⟨#[]⟩, .string ⟨#[]⟩, .string ⟨#[]⟩, .string ⟨#[]⟩, .string ⟨#[]⟩, .string ⟨#[]⟩, .string ⟨#[]⟩, .string ⟨#[]⟩, .string ⟨#[]⟩, .string ⟨#[]⟩, .string ⟨#[]⟩, .string ⟨#[]⟩, .string ⟨#[]⟩, .string ⟨#[]⟩, .string ⟨#[]⟩, .string ⟨#[]⟩, .string ⟨#[]⟩, .string ⟨#[]⟩, .string ⟨#[]⟩, .string ⟨#[]⟩, .string ⟨#[]⟩, .string ⟨#[]⟩, .string ⟨#[]⟩, .string ⟨#[]⟩, .string ⟨#[]⟩, .string ⟨#[]⟩, .string ⟨#[]⟩] 45) = w3 := ⟨_, rfl⟩
  obtain ⟨g1, hg1e⟩ : ∃ g1, w2.heap.size = g1 := ⟨_, rfl⟩
  rw [hw3] at H2 HS2 HR1 HR2 ⊢
  rw [hg1e] at HR1 HR2 ⊢
  have HG1 := Lib.hid (show w.heap.size ≤ g1 by omega)
  clear hw3 hg1e hg1
  go_wp2
  go_loopg [12] sb.size (fun gf vi wr => ∃ (i : Nat) (M : MapC) (L : List FileD) (n : Int) (v : Value), vi = .int .i64 i ∧ i + gf = sb.size ∧ KC w wr p v 41 200 100000 M [] L n (-1) false ∧ CkSt wr gs p ∧ RowK wr g1 44 41 (isV M) ∧ RowK wr (g1 + 1) 45 41 (hvV M) ∧ n ≤ 1 + 4 * i)
  case atStart => exact ⟨0, _, L2, n2, v2, rfl, by omega, H2.out, HS2.out, HR1.out, HR2.out, by omega⟩
  case round =>
    clear H2 HS2 HR1 HR2
    obtain ⟨i, M, L, n, v, rfl, hi, hkc, hst, hr1, hr2, hn⟩ := hrel
    cases gk with
    | zero =>
      obtain rfl : i = sb.size := by omega
      have HDR := Lib.hid (kc_drop hkc (by omega) HT.out HV.out hst below); have HR1 := Lib.hid hr1; have HR2 := Lib.hid hr2
      clear hkc hst hr1 hr2 hi
      go_wp2_with fail
      refine HDR.out.mono ?_
      intro e w5 hP
      obtain ⟨L5, n5, v5, rfl, h5, hs5, hn5, hk5⟩ := hP.ok
      have HR15 := Lib.hid (HR1.out.kp hk5 (by decide) (by decide)); have HR25 := Lib.hid (HR2.out.kp hk5 (by decide) (by decide)); have H5 := Lib.hid h5; have HS5 := Lib.hid hs5
      clear h5 hs5 hk5 hP HDR HR1 HR2
      obtain ⟨M', hM'⟩ : ∃ M', dropM M below = M' := ⟨_, rfl⟩
      have hMi : ∀ j, M' j = if (j : Int) < below then none else M j := fun j => by rw [← hM']; rfl
      have h5 := H5.out
      rw [hM'] at h5
      have H5 := Lib.hid h5; have HMI := Lib.hid hMi
      clear h5 hMi hM'
      go_wp2
      go_loopg [8, 9, 15] 2 (fun gf vs ve vt wr => ∃ (t gs : Nat) (L : List FileD) (n : Int) (v : Value), vs = .pointer (some ⟨gs, 0, none⟩) ∧ ve = .int .i64 0 ∧ vt = .int .i64 t ∧ t + gf = 2 ∧ KC w wr p v 41 200 100000 M' [] L n (-1) false ∧ CkSt wr gs p ∧ RowK wr g1 44 41 (isV M) ∧ RowK wr (g1 + 1) 45 41 (hvV M) ∧ n ≤ 1000 + t)
      case atStart => exact ⟨0, gs, L5, n5, v5, rfl, rfl, rfl, by omega, H5.out, HS5.out, HR15.out, HR25.out, by omega⟩
      case round =>
        clear H5 HS5 HR15 HR25
        obtain ⟨t, gs2, L, n, v, rfl, rfl, rfl, ht, hkc, hst, hr1, hr2, hn⟩ := hrel
        cases gk with
        | zero =>
          obtain rfl : t = 2 := by omega
          have HW := Lib.hid (HWK.out _ hkc.below); have HB := Lib.hid hkc.below
          clear hkc hst hr1 hr2
          go_wp2_with fail
          refine HW.out.mono ?_
          rintro e w8 ⟨rfl, hb8⟩
          have HB8 := Lib.hid (HB.out.trans (hb8.mono HB.out.size))
          clear hb8
          go_wp2
          go_ret
          exact ⟨rfl, HB8.out⟩
        | succ gt =>
          have htI : (t : Int) < 2 := by omega
          have HKC := Lib.hid hkc; have HST := Lib.hid hst; have HR1 := Lib.hid hr1; have HR2 := Lib.hid hr2
          clear hkc hst hr1 hr2
          go_wp2
          go_loopg [16, 17, 18] 41 (fun gf vn vl vk wx => ∃ k : Nat, vn = .int .i64 (keysC k M').length ∧ vl = .int .i64 (lastC (keysC k M')) ∧ vk = .int .i64 k ∧ k + gf = 41 ∧ Below wr.heap.size wr wx)
          case atStart => exact ⟨0, rfl, rfl, rfl, rfl, Below.refl _ _⟩
          case round =>
            obtain ⟨k, rfl, rfl, rfl, hk, hb⟩ := hrel
            cases gk with
            | zero =>
              obtain rfl : k = 41 := by omega
              have h9 := HKC.out.below_ hb
              have HNW := Lib.hid (kc_newest h9 (by omega) HT.out HV.out (HST.out.below hb)); have HBB := Lib.hid hb
              have HNL := Lib.hid (newL_last (keysC 41 M'))
              have hle := keysC_le 41 M'
              obtain ⟨kk, hkk⟩ : ∃ kk, keysC 41 M' = kk := ⟨_, rfl⟩
              rw [hkk] at HNW HNL hle
              rw [hkk]
              have HKK := Lib.hid hkk
              clear hb h9 hkk
              go_wp2_with fail
              refine HNW.out.mono ?_
              rintro e w9 ⟨rfl, hb9⟩
              have HB9 := Lib.hid (HBB.out.trans (hb9.mono HBB.out.size))
              have hst9 := kc_steps (HKC.out.below_ HB9.out) (by omega) HT.out HV.out (HST.out.below HB9.out)
              rw [HKK.out] at hst9
              have HSS := Lib.hid hst9
              clear hb9 hst9 HNW
              go_wp2_with fail
              refine HSS.out.mono ?_
              rintro e w10 ⟨v10, rfl, ho10, hb10⟩
              obtain ⟨A10, c10, rfl⟩ := own_shape ho10
              have HB10 := Lib.hid (HB9.out.trans (hb10.mono HB9.out.size))
              have HOP := Lib.hid (kc_open (HKC.out.below_ HB10.out) (by omega))
              have hr1 := HR1.out.below HB10.out; have hr2 := HR2.out.below HB10.out
              have HR1 := Lib.hid hr1; have HR2 := Lib.hid hr2
              clear ho10 hb10 HSS hr1 hr2
              rcases HNL.out with ⟨hz, he⟩ | ⟨hz, he⟩
              all_goals
                rw [he]
                obtain ⟨N, hN⟩ : ∃ N, kk.length = N := ⟨_, rfl⟩
                obtain ⟨Q, hQ⟩ : ∃ Q, lastC kk = Q := ⟨_, rfl⟩
                rw [hN] at hz
                first | (have hzI : (0 : Int) < (N : Int) := by omega) | (have hzI : (N : Int) = 0 := by omega)
                rw [hN, hQ]
                clear hN hQ he hle HNL HKK
                dsimp only
                go_wp2_with fail
                refine HOP.out.mono ?_
                intro e w11 hP
                obtain ⟨gs3, L11, n11, v11, rfl, h11, hs11, hg11, hn11, hk11⟩ := hP.ok
                have HR111 := Lib.hid (HR1.out.kp hk11 (by decide) (by decide)); have HR211 := Lib.hid (HR2.out.kp hk11 (by decide) (by decide)); have H11 := Lib.hid h11; have HS11 := Lib.hid hs11
                clear h11 hs11 hg11 hk11 hP HOP
                go_wp2
                go_roundg gt
                case measure => omega
                case rel => exact ⟨t + 1, gs3, L11, n11, v11, rfl, rfl, by go_num, by omega, H11.out, HS11.out, HR111.out, HR211.out, by omega⟩
            | succ gf =>
              have hk41 : k < 41 := by omega
              have hkI : (k : Int) < 41 := by omega
              have HRD := Lib.hid (kc_read (HKC.out.below_ hb) (by omega) HT.out (HST.out.below hb) k (by omega))
              have HBB := Lib.hid hb
              have hsu := keysC_snoc k M'
              have hmi := HMI.out k
              clear hb
              cases hmk : M' k with
              | none =>
                rw [hmk] at HRD hsu hmi
                rw [if_neg (by simp), List.append_nil] at hsu
                have HSU := Lib.hid hsu
                go_wp2_with fail
                refine HRD.out.mono ?_
                rintro e w8 ⟨v8, rfl, ho8, hb8⟩
                have HB8 := Lib.hid (HBB.out.trans (hb8.mono HBB.out.size))
                have y1 := (HR1.out.below HB8.out).cell hk41
                unfold isV at y1
                obtain ⟨A8, c8, rfl⟩ := own_shape ho8
                clear ho8 hb8 HRD hsu
                have e0 : ByteArray.empty.size = 0 := rfl
                dsimp only [rdC]
                rw [e0]
                cases hM : M k with
                | none =>
                  rw [hM] at y1
                  dsimp only [Option.isSome] at y1
                  clear hmi hmk hM
                  go_wp2
                  go_roundg gf
                  case measure => omega
                  case rel => exact ⟨k + 1, by rw [HSU.out], by rw [HSU.out], by go_num, by omega, HB8.out⟩
                | some b =>
                  rw [hM] at y1 hmi
                  dsimp only [Option.isSome] at y1
                  have hlt : (k : Int) < below := by
                    by_cases h : (k : Int) < below
                    · exact h
                    · rw [if_neg h] at hmi; cases hmi
                  have hge : ¬ below ≤ (k : Int) := by omega
                  have hgeb : decide (below ≤ (k : Int)) = false := decide_eq_false hge
                  clear hmi hmk hM
                  go_wp2
                  go_roundg gf
                  case measure => omega
                  case rel => exact ⟨k + 1, by rw [HSU.out], by rw [HSU.out], by go_num, by omega, HB8.out⟩
              | some b =>
                rw [hmk] at HRD hsu hmi
                rw [if_pos (by simp)] at hsu
                have hM : M k = some b ∧ ¬ (k : Int) < below := by
                  by_cases h : (k : Int) < below
                  · rw [if_pos h] at hmi; cases hmi
                  · rw [if_neg h] at hmi; exact ⟨hmi.symm, h⟩
                obtain ⟨hM, hnl⟩ := hM
                have hge : below ≤ (k : Int) := by omega
                have hgeb : decide (below ≤ (k : Int)) = true := decide_eq_true hge
                have hl1 : (keysC (k + 1) M').length = (keysC k M').length + 1 := by rw [hsu, List.length_append]; rfl
                have hl2 : lastC (keysC (k + 1) M') = (k : Int) := by rw [hsu, lastC_snoc]
                have HL1 := Lib.hid hl1; have HL2 := Lib.hid hl2
                have hN0l := keysC_le k M'
                go_wp2_with fail
                refine HRD.out.mono ?_
                rintro e w8 ⟨v8, rfl, ho8, hb8⟩
                have ho8 : w8.ownsRow _ 5 1 v8 b.size (ucells b) := ho8
                have hbt := Bt.of_own ho8
                have HB8 := Lib.hid (HBB.out.trans (hb8.mono HBB.out.size))
                have y1 := (HR1.out.below HB8.out).cell hk41
                have y0 := (HR2.out.below HB8.out).cell hk41
                unfold isV at y1
                unfold hvV at y0
                rw [hM] at y1 y0
                dsimp only [Option.isSome, Option.getD] at y1 y0
                obtain ⟨A8, c8, rfl⟩ := own_shape ho8
                have hcv : ∀ j, (convert 33 9 (.slice A8 b.size c8)).run Tryz.prog (w8.drewN j) = .ok (.string b) (w8.drewN j) := fun j => (show Bt (w8.drewN j) _ _ from hbt).conv
                obtain ⟨N0, hN0⟩ : ∃ N0, (keysC k M').length = N0 := ⟨_, rfl⟩
                rw [hN0] at hN0l
                have HN0 := Lib.hid hN0
                rw [hN0]
                clear ho8 hb8 hbt HRD hM hnl hmk hsu hN0 hl1 hl2 hmi
                dsimp only [rdC]
                go_upto_region 35 with (fail)
                go_quiet (fail)
                clear hcv
                go_wp2
                go_roundg gf
                case measure => omega
                case rel => exact ⟨k + 1, by rw [HL1.out, HN0.out]; go_num, by rw [HL2.out], by go_num, by omega, below_drewN HB8.out _⟩
    | succ gf =>
      have hiI : (i : Int) < (sb.size : Int) := by omega
      obtain ⟨ad, rfl, hcs⟩ := (HS.out.below hkc.below).cell (k := i) (by omega)
      obtain ⟨z, hz⟩ : ∃ z, (sb.get! i).toNat = z := ⟨_, rfl⟩
      obtain ⟨k, hk⟩ : ∃ k, z % 41 = k := ⟨_, rfl⟩
      have hk41 : k < 41 := by rw [← hk]; exact Nat.mod_lt _ (by decide)
      have hkI : (k : Int) < 41 := by omega
      have hzk : (z : Int) % 41 = (k : Int) := by omega
      rw [hz] at hcs
      obtain ⟨bv, b, hbv⟩ : ∃ (bv : Value) (b : ByteArray), (i < rows.length ∧ rows[i]? = some (bv, b)) ∨ (¬ i < rows.length ∧ bv = .slice none 0 0 ∧ b = ByteArray.empty) := by
        by_cases hil : i < rows.length
        · exact ⟨(rows[i]).1, (rows[i]).2, .inl ⟨hil, List.getElem?_eq_getElem hil⟩⟩
        · exact ⟨_, _, .inr ⟨hil, rfl, rfl⟩⟩
      have hbtr : ∀ W, Below w.heap.size w W → BtR W bv b := fun W hW => by
        rcases hbv with ⟨_, h⟩ | ⟨_, rfl, rfl⟩
        · exact (HR.out.2 (bv, b) (List.mem_of_getElem? h)).below hW
        · exact (bt_nil W).btr
      obtain ⟨Ab, cb, rfl, -, -⟩ := id (hbtr w (Below.refl _ _))
      have HBT := Lib.hid hbtr; have HBV := Lib.hid hbv
      have HKC := Lib.hid hkc; have HST := Lib.hid hst; have HR1 := Lib.hid hr1; have HR2 := Lib.hid hr2
      clear hkc hst hr1 hr2 hbtr hbv hz hk
      go_upto_if 50 with (fail)
      go_cut [14] (fun s14 wx => s14 = .slice Ab b.size cb ∧ wr = wx)
      case first =>
        rcases HBV.out with ⟨hil, hx⟩ | ⟨hil, hx, hy⟩
        · have hilI : (i : Int) < (rows.length : Int) := by omega
          obtain ⟨ad2, u, rfl, hu, hcu⟩ := (HR.out.1.below HKC.out.below).at_ (k := i) hil
          rw [List.getElem?_map, hx] at hu
          injection hu with hu
          subst hu
          dsimp only at hcu
          go_wp2
          go_meet
          exact ⟨rfl, rfl⟩
        · have hilI : ¬ (i : Int) < (rows.length : Int) := by omega
          have HX := Lib.hid hx.symm
          clear hx hy
          go_wp2
          go_meet
          exact ⟨HX.out, rfl⟩
      case rest =>
      obtain ⟨rfl, rfl⟩ := hcut
      by_cases hb3 : b.size ≤ 200
      case neg =>
        have hbI : (200 : Int) < (b.size : Int) := by omega
        have HW := Lib.hid (HWK.out _ HKC.out.below); have HB := Lib.hid HKC.out.below
        clear HKC HST HR1 HR2
        go_wp2_with fail
        refine HW.out.mono ?_
        rintro e w5 ⟨rfl, hb5⟩
        have HB5 := Lib.hid (HB.out.trans (hb5.mono HB.out.size))
        clear hb5
        go_wp2
        go_ret
        exact ⟨rfl, HB5.out⟩
      have hbI : ¬ (200 : Int) < (b.size : Int) := by omega
      have hw := kc_write HKC.out (by omega) HT.out HST.out hk41 hb3 (fun W hW _ => HBT.out W (HKC.out.below.trans hW))
      have HW := Lib.hid hw
      clear hw
      go_wp2_with fail
      refine HW.out.mono ?_
      intro e w4 hP
      obtain ⟨L4, n4, v4, rfl, h4, hs4, hn4, hk4⟩ := hP.ok
      have hr1 := HR1.out.kp hk4 (by decide) (by decide)
      have hr2 := HR2.out.kp hk4 (by decide) (by decide)
      have y0 := hr1.cell hk41; have f0 := hr1.frozen k
      have hm1 := Moved.set_ w4 g1 k none (.bool true)
      have h5 := h4.moved hr1 (by decide) (by decide) (by decide) HG1.out hm1
      have hs5 : CkSt (w4.setCell ⟨g1, k, none⟩ (.bool true)) gs p := Blk.moved hs4 hm1 (fun e => by subst e; exact blk_type hs4 hr1 (by decide))
      have hr15 := hr1.set_ k (.bool true) (isV (putC M k b)) (fun j _ => is_put M k b j)
      have hr25 : RowK (w4.setCell ⟨g1, k, none⟩ (.bool true)) (g1 + 1) 45 41 (hvV M) := Blk.moved hr2 hm1 (by omega)
      have hcv : (convert 33 9 (.slice Ab b.size cb)).run Tryz.prog (w4.setCell ⟨g1, k, none⟩ (.bool true)) = .ok (.string b) (w4.setCell ⟨g1, k, none⟩ (.bool true)) := (HBT.out _ h5.below).conv
      have y1 := hr25.cell hk41; have f1 := hr25.frozen k
      have hm2 := Moved.set_ (w4.setCell ⟨g1, k, none⟩ (.bool true)) (g1 + 1) k none (.string b)
      have h6 := h5.moved hr25 (by decide) (by decide) (by decide) (Nat.le_succ_of_le HG1.out) hm2
      have hs6 : CkSt ((w4.setCell ⟨g1, k, none⟩ (.bool true)).setCell ⟨g1 + 1, k, none⟩ (.string b)) gs p := Blk.moved hs5 hm2 (fun e => by subst e; exact blk_type hs5 hr25 (by decide))
      have hr26 := hr25.set_ k (.string b) (hvV (putC M k b)) (fun j _ => hv_put M k b j)
      have hr16 : RowK ((w4.setCell ⟨g1, k, none⟩ (.bool true)).setCell ⟨g1 + 1, k, none⟩ (.string b)) g1 44 41 (isV (putC M k b)) := Blk.moved hr15 hm2 (by omega)
      have H6 := Lib.hid h6; have HS6 := Lib.hid hs6; have HR16 := Lib.hid hr16; have HR26 := Lib.hid hr26
      clear h4 hs4 hk4 hP hr1 hr2 hm1 h5 hs5 hr15 hr25 hm2 h6 hs6 hr16 hr26 HKC HST HR1 HR2 HW hcs
      unfold isV at y0
      unfold hvV at y1
      go_wp2
      go_roundg gf
      case measure => omega
      case rel => exact ⟨i + 1, _, L4, n4, v4, by go_num, by omega, H6.out, HS6.out, HR16.out, HR26.out, by omega⟩
theorem cdrops_card (w : World) (A : Option Addr) (l : List UInt8) (c : Nat) (hc : l.length ≤ c) (hx : 0 < l.length → ∃ ad, A = some ad ∧ ad.block < w.heap.size ∧ ∀ j (hj : j < l.length), w.cell? (ad.add j) = some (.int .u8 (l[j].toNat : Int)))
    (A2 : Option Addr) (xs : List (Value × List UInt8)) (c2 : Nat) (h : 0 < xs.length → ∃ ad, A2 = some ad ∧ ad.block < w.heap.size ∧ ∀ j x, xs[j]? = some x → w.cell? (ad.add j) = some x.1) (hy : ∀ x ∈ xs, ∃ A' c', x.1 = .slice A' x.2.length c' ∧ x.2.length ≤ c' ∧ BytesAt w A' x.2)
    (below : Int) (hT0 : Tb w.heap.size w) (hV0 : Ev w.heap.size w) :
    Calls Tryz.prog 4 #[.slice A l.length c, .slice A2 xs.length c2, .int .i64 below] w fun e w' => e = .returned (.bool true) ∧ Below w.heap.size w w' := by
  have hs : (⟨l.toArray⟩ : ByteArray).size = l.length := by simp [ByteArray.size]
  have hb := btr_of_cells (w := w) (A := A) hc hx
  rw [← hs] at hb
  have := cdrops_any w A c ⟨l.toArray⟩ hb A2 c2 (xs.map fun x => (x.1, ⟨x.2.toArray⟩)) (rows2_of h hy) below hT0 hV0
  rw [hs, List.length_map] at this
  exact this
end Go.Proofs.YthmcimpdehgaoaaGreatDoor
