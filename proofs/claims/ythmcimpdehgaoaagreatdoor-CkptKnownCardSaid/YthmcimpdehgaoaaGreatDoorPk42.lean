/- Rows that the laws keep beside a store: what was written of each step, and whether anything was. The law of checkpoints that are written again and again: its walk. -/
import Derived.Test.YthmcimpdehgaoaaGreatDoorPk40
import Derived.Laws.BitsLemmas
import Derived.Deep.DeepCutAuto
namespace Go.Proofs.YthmcimpdehgaoaaGreatDoor
open Go.RowKit Go.Maps

/-- the low bits of a number -/
theorem and_mask (n : Int) (k : Nat) (hk : k ≤ 60) (m : Int) (hm : m = ((2 ^ k - 1 : Nat) : Int)) : bits .and .i64 n m = n % ((2 ^ k : Nat) : Int) := by
  subst hm
  have hp : 2 ^ k ≤ 2 ^ 60 := Nat.pow_le_pow_right (by decide) hk
  have hp2 : (2 : Nat) ^ 60 < 2 ^ 64 := by decide
  have h0 : 0 < 2 ^ k := Nat.pow_pos (by decide)
  have h1 : (BitVec.ofInt 64 ((2 ^ k - 1 : Nat) : Int)).toNat = 2 ^ k - 1 := by
    rw [BitVec.ofInt_natCast, BitVec.toNat_ofNat]
    exact Nat.mod_eq_of_lt (by omega)
  have key : (BitVec.ofInt 64 n &&& BitVec.ofInt 64 ((2 ^ k - 1 : Nat) : Int)).toNat = (n % ((2 ^ 64 : Nat) : Int)).toNat % 2 ^ k := by
    rw [BitVec.toNat_and, BitVec.toNat_ofInt, h1, Nat.and_two_pow_sub_one_eq_mod]
  show IntKind.i64.wrap ((BitVec.ofInt 64 n &&& BitVec.ofInt 64 ((2 ^ k - 1 : Nat) : Int)).toNat : Nat) = _
  rw [key]
  have hd : ((2 ^ k : Nat) : Int) ∣ ((2 ^ 64 : Nat) : Int) := by
    refine Int.natCast_dvd_natCast.2 (Nat.pow_dvd_pow 2 (by omega))
  have hpos : 0 ≤ n % ((2 ^ 64 : Nat) : Int) := Int.emod_nonneg _ (by decide)
  have e1 : (((n % ((2 ^ 64 : Nat) : Int)).toNat % 2 ^ k : Nat) : Int) = n % ((2 ^ k : Nat) : Int) := by
    rw [Int.natCast_emod, Int.toNat_of_nonneg hpos, Int.emod_emod_of_dvd n hd]
  rw [e1]
  have hlt := Int.emod_lt_of_pos n (show (0 : Int) < ((2 ^ k : Nat) : Int) by omega)
  have hge := Int.emod_nonneg n (show ((2 ^ k : Nat) : Int) ≠ 0 by omega)
  exact IntWalk.i64_in _ (by omega)
theorem and15 (n : Int) : ∃ k : Nat, k < 16 ∧ bits .and .i64 n 15 = (k : Int) := by
  have h := and_mask n 4 (by decide) 15 rfl
  have h1 := Int.emod_nonneg n (show ((2 ^ 4 : Nat) : Int) ≠ 0 by decide)
  have h2 := Int.emod_lt_of_pos n (show (0 : Int) < ((2 ^ 4 : Nat) : Int) by decide)
  have e : ((2 ^ 4 : Nat) : Int) = 16 := rfl
  rw [e] at h h1 h2
  exact ⟨(n % 16).toNat, by omega, by rw [h]; omega⟩
theorem and7 (n : Int) : ∃ k : Nat, k < 8 ∧ bits .and .i64 n 7 = (k : Int) := by
  have h := and_mask n 3 (by decide) 7 rfl
  have h1 := Int.emod_nonneg n (show ((2 ^ 3 : Nat) : Int) ≠ 0 by decide)
  have h2 := Int.emod_lt_of_pos n (show (0 : Int) < ((2 ^ 3 : Nat) : Int) by decide)
  have e : ((2 ^ 3 : Nat) : Int) = 8 := rfl
  rw [e] at h h1 h2
  exact ⟨(n % 8).toNat, by omega, by rw [h]; omega⟩
theorem and1 (n : Int) : bits .and .i64 n 1 ≤ 9223372036854775807 := by
  have h := and_mask n 1 (by decide) 1 rfl
  have h2 := Int.emod_lt_of_pos n (show (0 : Int) < ((2 ^ 1 : Nat) : Int) by decide)
  have e : ((2 ^ 1 : Nat) : Int) = 2 := rfl
  rw [e] at h h2
  omega
/-- a row of K values in its block -/
def RowK (w : World) (g : Nat) (t : TypeId) (K : Nat) (f : Nat → Value) : Prop := Blk w g t ((List.range K).map f).toArray
section
variable {w w' : World} {g : Nat} {t : TypeId} {K : Nat} {f : Nat → Value}
theorem RowK.cell (h : RowK w g t K f) {k : Nat} (hk : k < K) : w.cell? ⟨g, k, none⟩ = some (f k) := by
  refine (Blk.cell h k).trans ?_
  rw [List.getElem?_toArray, List.getElem?_map, List.getElem?_range hk]
  rfl
theorem RowK.frozen (h : RowK w g t K f) (k : Nat) : w.frozen? ⟨g, k, none⟩ = false := Blk.frozen h k
theorem RowK.set_ (h : RowK w g t K f) (k : Nat) (u : Value) (f' : Nat → Value) (hf : ∀ j, j < K → f' j = if j = k then u else f j) : RowK (w.setCell ⟨g, k, none⟩ u) g t K f' := by
  have h2 := Blk.set_ h k u
  unfold RowK
  have : ((List.range K).map f').toArray = (((List.range K).map f).toArray).setIfInBounds k u := by
    rw [List.setIfInBounds_toArray]
    congr 1
    apply List.ext_getElem?
    intro j
    rw [List.getElem?_set]
    by_cases hj : j < K
    · rw [List.getElem?_map, List.getElem?_range hj, List.getElem?_map, List.getElem?_range hj, List.length_map, List.length_range]
      simp only [Option.map_some, hf j hj]
      by_cases hjk : j = k
      · subst hjk; simp [hj]
      · rw [if_neg hjk, if_neg (fun e => hjk e.symm)]
    · have h3 : ((List.range K).map f')[j]? = none := List.getElem?_eq_none (by simp; omega)
      have h4 : ((List.range K).map f)[j]? = none := List.getElem?_eq_none (by simp; omega)
      rw [h3, h4]
      simp
      omega
  rw [this]
  exact h2
theorem RowK.far (h : RowK w g t K f) {p : Addr} (hp : g ≠ p.block) (u : Value) : RowK (w.setCell p u) g t K f := Blk.far h hp u
theorem RowK.below (h : RowK w g t K f) (hb : Below w.heap.size w w') : RowK w' g t K f := Blk.below h hb (Blk.lt h)
theorem RowK.kp (h : RowK w g t K f) (k : KpB w w') (h1 : t ≠ 68) (h2 : t ≠ 90) : RowK w' g t K f := k.blk h h1 h2
end
def hvV (M : MapC) (k : Nat) : Value := .string ((M k).getD ⟨#[]⟩)
def isV (M : MapC) (k : Nat) : Value := .bool (M k).isSome
theorem hv_put (M : MapC) (k : Nat) (b : ByteArray) (j : Nat) : hvV (putC M k b) j = if j = k then .string b else hvV M j := by
  unfold hvV putC
  by_cases h : j = k
  · rw [if_pos h, if_pos h]; rfl
  · rw [if_neg h, if_neg h]
theorem is_put (M : MapC) (k : Nat) (b : ByteArray) (j : Nat) : isV (putC M k b) j = if j = k then .bool true else isV M j := by
  unfold isV putC
  by_cases h : j = k
  · rw [if_pos h, if_pos h]; rfl
  · rw [if_neg h, if_neg h]
section
variable {w wr w2 : World} {p gs g K Z : Nat} {v : Value} {q n l : Int} {M : MapC} {T L : List FileD} {off : Bool} {t : TypeId} {cs : Array Value}
/-- a block of the law's own is written -/
theorem KC.moved (a : KC w wr p v K Z q M T L n l off) (hk : Blk wr g t cs) (h1 : t ≠ 68) (h2 : t ≠ 90) (h3 : t ≠ 5) (hg : w.heap.size ≤ g) (hm : Moved wr w2 g none) : KC w w2 p v K Z q M T L n l off := by
  obtain ⟨rows, hr, hR⟩ := a.is.row
  have hty := own_type hR.1 (t := t) (fun e => h2 e.symm)
  refine ⟨a.is.keep hm (fun e => by subst e; exact blk_type a.is.blk hk (fun e => h1 e.symm)) (by simp) (fun k hk' => ⟨fun e => by subst e; exact hty k hk' _ _ hk, by simp⟩) (fun _ _ hh => blk_type hk hh h3) (by simp), a.below.trans (hm.below hg (by simp) a.below.size), a.inv, a.n0, a.l0, a.l1, a.q0⟩
theorem Blk.moved {t' : TypeId} {ds : Array Value} {g' : Nat} (h : Blk wr g' t' ds) (hm : Moved wr w2 g none) (hne : g' ≠ g) : Blk w2 g' t' ds := (hm.block g' h.lt hne (by simp)).trans h
end
/-- where a step stands among those that are there -/
theorem keysC_at {M : MapC} : ∀ {K k : Nat}, k < K → (M k).isSome = true → (keysC K M)[(keysC k M).length]? = some k := by
  intro K
  induction K with
  | zero => intro k hk; omega
  | succ K ih =>
    intro k hk hs
    have e : keysC (K + 1) M = keysC K M ++ if (M K).isSome = true then [K] else [] := by
      unfold keysC
      rw [List.range_succ, List.filter_append, List.filter_cons, List.filter_nil]
    rw [e]
    by_cases hkK : k = K
    · subst hkK
      rw [if_pos hs, List.getElem?_append_right (Nat.le_refl _), Nat.sub_self]; rfl
    · have h1 := ih (k := k) (by omega) hs
      rw [List.getElem?_append_left (List.getElem?_eq_some_iff.1 h1).1]
      exact h1
theorem keysC_succ (K : Nat) (M : MapC) : (keysC (K + 1) M).length = (keysC K M).length + if (M K).isSome = true then 1 else 0 := by
  unfold keysC
  rw [List.range_succ, List.filter_append, List.length_append, List.filter_cons, List.filter_nil]
  split <;> rfl
theorem keysC_len_lt {M : MapC} {K k : Nat} (hk : k < K) (hs : (M k).isSome = true) : (keysC k M).length < (keysC K M).length := (List.getElem?_eq_some_iff.1 (keysC_at hk hs)).1
theorem keysC_le (K : Nat) (M : MapC) : (keysC K M).length ≤ K := by unfold keysC; exact Nat.le_trans (List.length_filter_le _ _) (by simp)
end Go.Proofs.YthmcimpdehgaoaaGreatDoor
namespace Go.Proofs.YthmcimpdehgaoaaGreatDoor
open Go.RowKit Go.Maps

theorem infoBool : (Tryz.prog.info? 4).map (fun i => (i.zero, i.size, i.bytes)) = some (some (.bool false), 1, 1) := by kernel_rfl
theorem mkS (K : Nat) (hK : K ≤ 1000) (X : World) : (Instr.makeSlice 31 (.int .i64 K) (.int .i64 K)).run Tryz.prog X = .ok (.slice (some ⟨X.heap.size, 0, none⟩) K K) (X.alloc (.cells ((List.range K).map (hvV fun _ => none)).toArray 9)) := by
  obtain ⟨i0, hi0, hz0, hz1, hz2⟩ := parts infoS
  have h := run_make_one (P := Tryz.prog) 31 9 i0 (.string ⟨#[]⟩) Tryz.underlying31 hi0 hz0 rfl hz1 K (by rw [hz2]; omega) (by omega) X
  have e : List.replicate K (Value.string ⟨#[]⟩) = (List.range K).map (hvV fun _ => none) := by
    apply List.ext_getElem?
    intro j
    by_cases hj : j < K
    · rw [List.getElem?_replicate, List.getElem?_map, List.getElem?_range hj, if_pos hj]; rfl
    · rw [List.getElem?_replicate, if_neg hj, List.getElem?_eq_none (by simp; omega)]
  rw [e] at h
  exact h
theorem mkB (K : Nat) (hK : K ≤ 1000) (X : World) : (Instr.makeSlice 32 (.int .i64 K) (.int .i64 K)).run Tryz.prog X = .ok (.slice (some ⟨X.heap.size, 0, none⟩) K K) (X.alloc (.cells ((List.range K).map (isV fun _ => none)).toArray 4)) := by
  obtain ⟨i0, hi0, hz0, hz1, hz2⟩ := parts infoBool
  have h := run_make_one (P := Tryz.prog) 32 4 i0 (.bool false) Tryz.underlying32 hi0 hz0 rfl hz1 K (by rw [hz2]; omega) (by omega) X
  have e : List.replicate K (Value.bool false) = (List.range K).map (isV fun _ => none) := by
    apply List.ext_getElem?
    intro j
    by_cases hj : j < K
    · rw [List.getElem?_replicate, List.getElem?_map, List.getElem?_range hj, if_pos hj]; rfl
    · rw [List.getElem?_replicate, if_neg hj, List.getElem?_eq_none (by simp; omega)]
  rw [e] at h
  exact h
set_option maxRecDepth 100000 in
set_option maxHeartbeats 16000000 in
theorem again_any (w0 : World) (A : Option Addr) (c : Nat) (l : List CallC) (hA0 : CallsA w0 A l) (bel : Nat) (hbel : bel ≤ 255) (hT0 : Tb w0.heap.size w0) (hV0 : Ev w0.heap.size w0) :
    Calls Tryz.prog 3 #[.slice A l.length c, .int .u8 bel] w0 fun e w' => e = .returned (.bool true) ∧ Below w0.heap.size w0 w' := by
  have HL := Lib.hid (large_any w0 A c l hA0)
  have HA0 := Lib.hid hA0; have HT0 := Lib.hid hT0; have HV0 := Lib.hid hV0
  clear hA0 hT0 hV0
  go_enter Tryz.func3, Tryz.ntmps3
  by_cases hl40 : l.length ≤ 40
  case neg =>
    have hlI : (40 : Int) < (l.length : Int) := by omega
    have HW := Lib.hid (works_any w0 HT0.out HV0.out)
    clear HL
    go_wp2_with fail
    refine HW.out.mono ?_
    rintro e w5 ⟨rfl, hb5⟩
    have HB5 := Lib.hid hb5
    clear hb5
    go_wp2
    go_ret
    exact ⟨rfl, HB5.out⟩
  have hlI : ¬ (40 : Int) < (l.length : Int) := by omega
  go_wp2_with fail
  refine HL.out.mono ?_
  intro e w hP
  obtain ⟨b, rfl, hb0, hsm⟩ := hP
  have hwk : ∀ W, Below w.heap.size w W → Calls Tryz.prog 9 #[] W fun e w' => e = .returned (.bool true) ∧ Below W.heap.size W w' := fun W hW => works_any W (HT0.out.at_ (hb0.trans (hW.mono hb0.size))) (HV0.out.at_ (hb0.trans (hW.mono hb0.size)))
  have HWK := Lib.hid hwk; have HB0 := Lib.hid hb0; have HA := Lib.hid (HA0.out.below hb0); have HT := Lib.hid (HT0.out.at_ hb0); have HV := Lib.hid (HV0.out.at_ hb0)
  clear hwk hb0 HL HA0 HT0 HV0 hlI
  cases b with
  | true =>
    clear hsm
    go_wp2_with fail
    refine (HWK.out _ (Below.refl _ _)).mono ?_
    rintro e w5 ⟨rfl, hb5⟩
    have HB5 := Lib.hid (HB0.out.trans (hb5.mono HB0.out.size))
    clear hb5
    go_wp2
    go_ret
    exact ⟨rfl, HB5.out⟩
  | false =>
  clear hsm
  have hms := mkS 16 (by decide); have hmb := mkB 16 (by decide)
  simp only [Int.cast_ofNat_Int] at hms hmb
  go_wp2_with fail
  refine (kc_new (K := 16) (Z := 3000) ⟨by decide, by decide⟩ 1048576 (by decide) _).mono ?_
  rintro e w1 ⟨rfl, h1⟩
  have HC := Lib.hid (kc_open h1 (by decide))
  clear h1
  go_wp2_with fail
  refine HC.out.mono ?_
  intro e w2 hP
  obtain ⟨gs, L2, n2, v2, rfl, h2, hs2, hg2, hn2, -⟩ := hP.ok
  obtain ⟨p, hp⟩ : ∃ p, w.heap.size = p := ⟨_, rfl⟩
  have hg1 : w.heap.size ≤ w2.heap.size := h2.below.size
  have hbx := ((Below.refl w2.heap.size w2).alloc (Nat.le_refl _) (.cells ((List.range 16).map (hvV fun _ => none)).toArray 9)).alloc (by simp) (.cells ((List.range 16).map (isV fun _ => none)).toArray 4)
  have hr1 : RowK ((w2.alloc (.cells ((List.range 16).map (hvV fun _ => none)).toArray 9)).alloc (.cells ((List.range 16).map (isV fun _ => none)).toArray 4)) w2.heap.size 9 16 (hvV fun _ => none) := (Blk.new w2 _ _).alloc _
  have hr2 : RowK ((w2.alloc (.cells ((List.range 16).map (hvV fun _ => none)).toArray 9)).alloc (.cells ((List.range 16).map (isV fun _ => none)).toArray 4)) (w2.heap.size + 1) 4 16 (isV fun _ => none) := by
    have := Blk.new (w2.alloc (.cells ((List.range 16).map (hvV fun _ => none)).toArray 9)) 4 ((List.range 16).map (isV fun _ => none)).toArray
    rw [World.size_alloc] at this
    exact this
  have H2 := Lib.hid (h2.below_ hbx); have HS2 := Lib.hid (hs2.below hbx); have HR1 := Lib.hid hr1; have HR2 := Lib.hid hr2; have HGS := Lib.hid hg2
  clear h2 hs2 hg2 hP HC hbx hr1 hr2
  obtain ⟨cs1, hcs1⟩ : ∃ cs1, ((List.range 16).map (hvV fun _ => none)).toArray = cs1 := ⟨_, rfl⟩
  obtain ⟨cs2, hcs2⟩ : ∃ cs2, ((List.range 16).map (isV fun _ => none)).toArray = cs2 := ⟨_, rfl⟩
  rw [hcs1] at hms H2 HS2 HR1 HR2
  rw [hcs2] at hmb H2 HS2 HR1 HR2
  rw [hp] at H2 HS2
  go_upto_region 9 with (fail)
  clear hms hmb hcs1 hcs2
  obtain ⟨w3, hw3⟩ : ∃ w3, (w2.alloc (.cells cs1 9)).alloc (.cells cs2 4) = w3 := ⟨_, rfl⟩
  obtain ⟨g1, hg1e⟩ : ∃ g1, w2.heap.size = g1 := ⟨_, rfl⟩
  rw [hw3] at H2 HS2 HR1 HR2 ⊢
  rw [hg1e] at HR1 HR2 ⊢
  have HG1 := Lib.hid (show w.heap.size ≤ g1 by omega)
  clear hw3 hg1e hg1
  go_wp2
  go_loopg [10] l.length (fun gf vi wr => ∃ (i : Nat) (M : MapC) (L : List FileD) (n : Int) (v : Value), vi = .int .i64 i ∧ i + gf = l.length ∧ KC w wr p v 16 3000 1048576 M [] L n (-1) false ∧ CkSt wr gs p ∧ RowK wr g1 9 16 (hvV M) ∧ RowK wr (g1 + 1) 4 16 (isV M) ∧ n ≤ 1 + 4 * i)
  case atStart => exact ⟨0, _, L2, n2, v2, rfl, by omega, H2.out, HS2.out, HR1.out, HR2.out, by omega⟩
  case round =>
    clear H2 HS2 HR1 HR2
    obtain ⟨i, M, L, n, v, rfl, hi, hkc, hst, hr1, hr2, hn⟩ := hrel
    cases gk with
    | zero =>
      obtain rfl : i = l.length := by omega
      have HOP := Lib.hid (kc_open hkc (by omega)); have HR1 := Lib.hid hr1; have HR2 := Lib.hid hr2
      obtain ⟨m, hm⟩ : ∃ m, bel % 20 = m := ⟨_, rfl⟩
      have hmI : (bel : Int) % 20 = (m : Int) := by omega
      clear hkc hst hr1 hr2 hi hm
      go_wp2_with fail
      refine HOP.out.mono ?_
      intro e w4 hP
      obtain ⟨gs2, L4, n4, v4, rfl, h4, hs4, hg4, hn4, hk4⟩ := hP.ok
      have HDR := Lib.hid (kc_drop h4 (by omega) HT.out HV.out hs4 m); have HR14 := Lib.hid (HR1.out.kp hk4 (by decide) (by decide)); have HR24 := Lib.hid (HR2.out.kp hk4 (by decide) (by decide))
      clear h4 hs4 hg4 hk4 hP HOP HR1 HR2
      go_wp2_with fail
      refine HDR.out.mono ?_
      intro e w5 hP
      obtain ⟨L5, n5, v5, rfl, h5, hs5, hn5, hk5⟩ := hP.ok
      have HOP := Lib.hid (kc_open h5 (by omega)); have HR15 := Lib.hid (HR14.out.kp hk5 (by decide) (by decide)); have HR25 := Lib.hid (HR24.out.kp hk5 (by decide) (by decide))
      clear h5 hs5 hk5 hP HDR HR14 HR24
      go_wp2_with fail
      refine HOP.out.mono ?_
      intro e w6 hP
      obtain ⟨gs3, L6, n6, v6, rfl, h6, hs6, hg6, hn6, hk6⟩ := hP.ok
      have HST := Lib.hid (kc_steps h6 (by omega) HT.out HV.out hs6); have HR16 := Lib.hid (HR15.out.kp hk6 (by decide) (by decide)); have HR26 := Lib.hid (HR25.out.kp hk6 (by decide) (by decide)); have H6 := Lib.hid h6; have HS6 := Lib.hid hs6
      clear h6 hs6 hg6 hk6 hP HOP HR15 HR25
      go_wp2_with fail
      refine HST.out.mono ?_
      rintro e w7 ⟨v7, rfl, ho7, hb7⟩
      obtain ⟨A7, c7, rfl⟩ := own_shape ho7
      have H7 := Lib.hid (H6.out.below_ hb7); have HS7 := Lib.hid (HS6.out.below hb7); have HR17 := Lib.hid (HR16.out.below hb7); have HR27 := Lib.hid (HR26.out.below hb7); have HO7 := Lib.hid ho7
      clear ho7 hb7 HST H6 HS6 HR16 HR26
      obtain ⟨N, hN⟩ : ∃ N, (keysC 16 (dropM M m)).length = N := ⟨_, rfl⟩
      have ho7 := HO7.out
      rw [hN] at ho7
      rw [hN]
      have HO7 := Lib.hid ho7; have HN := Lib.hid hN
      clear ho7 hN
      go_wp2
      go_loopg [17, 18] 16 (fun gf vn vk wr => ∃ k : Nat, vn = .int .i64 (keysC k (dropM M m)).length ∧ vk = .int .i64 k ∧ k + gf = 16 ∧ Below w7.heap.size w7 wr)
      case atStart => exact ⟨0, rfl, rfl, rfl, Below.refl _ _⟩
      case round =>
        obtain ⟨k, rfl, rfl, hk, hb⟩ := hrel
        cases gk with
        | zero =>
          obtain rfl : k = 16 := by omega
          rw [HN.out]
          have HW := Lib.hid (HWK.out _ (H7.out.below_ hb).below); have HB := Lib.hid (H7.out.below_ hb).below
          clear hb
          go_wp2_with fail
          refine HW.out.mono ?_
          rintro e w8 ⟨rfl, hb8⟩
          have HB8 := Lib.hid (HB0.out.trans ((HB.out.trans (hb8.mono HB.out.size)).mono HB0.out.size))
          clear hb8
          go_wp2
          go_ret
          exact ⟨rfl, HB8.out⟩
        | succ gf =>
          have hk16 : k < 16 := by omega
          have hkI : (k : Int) < 16 := by omega
          have HRD := Lib.hid (kc_read (H7.out.below_ hb) (by omega) HT.out (HS7.out.below hb) k (by omega))
          have HBB := Lib.hid hb
          have hsu := keysC_succ k (dropM M m)
          clear hb
          cases hmk : dropM M m k with
          | none =>
            rw [hmk] at HRD hsu
            rw [if_neg (by simp)] at hsu
            go_wp2_with fail
            refine HRD.out.mono ?_
            rintro e w8 ⟨v8, rfl, ho8, hb8⟩
            have HB8 := Lib.hid (HBB.out.trans (hb8.mono HBB.out.size))
            have y1 := (HR27.out.below HB8.out).cell hk16
            unfold isV at y1
            obtain ⟨A8, c8, rfl⟩ := own_shape ho8
            clear ho8 hb8 HRD
            unfold dropM at hmk
            dsimp only [rdC]
            cases hM : M k with
            | none =>
              rw [hM] at y1
              dsimp only [Option.isSome] at y1
              clear hmk
              go_upto_region 30 with (fail)
              go_quiet (fail)
              go_wp2
              go_roundg gf
              case measure => omega
              case rel => exact ⟨k + 1, by rw [hsu]; rfl, by go_num, by omega, below_drewN HB8.out _⟩
            | some b =>
              rw [hM] at y1 hmk
              dsimp only [Option.isSome] at y1
              have hlt : (k : Int) < (m : Int) := by
                by_cases h : (k : Int) < (m : Int)
                · exact h
                · rw [if_neg h] at hmk; cases hmk
              have hge : ¬ (m : Int) ≤ (k : Int) := by omega
              have hgeb : decide ((m : Int) ≤ (k : Int)) = false := decide_eq_false hge
              clear hmk
              go_upto_region 30 with (fail)
              go_quiet (fail)
              go_wp2
              go_roundg gf
              case measure => omega
              case rel => exact ⟨k + 1, by rw [hsu]; rfl, by go_num, by omega, below_drewN HB8.out _⟩
          | some b =>
            have hat := keysC_at (K := 16) hk16 (M := dropM M m) (by rw [hmk]; rfl)
            have hlt := keysC_len_lt (K := 16) hk16 (M := dropM M m) (by rw [hmk]; rfl)
            rw [hmk] at HRD hsu
            rw [if_pos (by simp)] at hsu
            have hM : M k = some b ∧ ¬ (k : Int) < (m : Int) := by
              unfold dropM at hmk
              by_cases h : (k : Int) < (m : Int)
              · rw [if_pos h] at hmk; cases hmk
              · rw [if_neg h] at hmk; exact ⟨hmk, h⟩
            obtain ⟨hM, hnl⟩ := hM
            have hge : (m : Int) ≤ (k : Int) := by omega
            have hgeb : decide ((m : Int) ≤ (k : Int)) = true := decide_eq_true hge
            go_wp2_with fail
            refine HRD.out.mono ?_
            rintro e w8 ⟨v8, rfl, ho8, hb8⟩
            have ho8 : w8.ownsRow _ 5 1 v8 b.size (ucells b) := ho8
            have hbt := Bt.of_own ho8
            have HB8 := Lib.hid (HBB.out.trans (hb8.mono HBB.out.size))
            have y1 := (HR27.out.below HB8.out).cell hk16
            have y0 := (HR17.out.below HB8.out).cell hk16
            have ho7 := ownC_below HO7.out HB8.out
            rw [← HN.out] at ho7
            obtain ⟨g7, rfl, z7⟩ := int_at ho7 hat
            rw [HN.out] at hlt
            unfold isV at y1
            unfold hvV at y0
            rw [hM] at y1 y0
            dsimp only [Option.isSome, Option.getD] at y1 y0
            obtain ⟨A8, c8, rfl⟩ := own_shape ho8
            have hcv : ∀ j, (convert 33 9 (.slice A8 b.size c8)).run Tryz.prog (w8.drewN j) = .ok (.string b) (w8.drewN j) := fun j => (show Bt (w8.drewN j) _ _ from hbt).conv
            obtain ⟨N0, hN0⟩ : ∃ N0, (keysC k (dropM M m)).length = N0 := ⟨_, rfl⟩
            rw [hN0] at hsu z7
            rw [hN0] at hlt
            have HSU := Lib.hid hsu
            rw [hN0]
            have hltI : (N0 : Int) < (N : Int) := by omega
            have hN0l : N0 ≤ 16 := by rw [← hN0]; have := keysC_le k (dropM M m); omega
            clear ho7 ho8 hb8 hbt hat HRD hM hnl hmk hsu hN0
            dsimp only [rdC]
            go_upto_region 30 with (fail)
            go_quiet (fail)
            clear hcv
            go_wp2
            go_roundg gf
            case measure => omega
            case rel => exact ⟨k + 1, by rw [HSU.out]; go_num, by go_num, by omega, below_drewN HB8.out _⟩
    | succ gf =>
      obtain ⟨x, hx⟩ : ∃ x, l[i]? = some x := ⟨_, List.getElem?_eq_getElem (by omega)⟩
      obtain ⟨bb, oo, rfl, hlt, hcl⟩ := HA.out (by omega)
      have hcx := (hcl i x hx).below hlt hkc.below
      have hiI : (i : Int) < (l.length : Int) := by omega
      obtain ⟨A1, cc1, hb1, hbt⟩ := hcx.bs
      obtain ⟨A1', cc1', hb1', hbt0⟩ := (hcl i x hx).bs
      have x1 := hcx.s
      obtain ⟨k, hk, hke⟩ := and15 x.step
      have HBT := Lib.hid hbt0
      have he1 : A1 = A1' ∧ cc1 = cc1' := by
        have := (hkc.below.cell (p := ⟨bb, oo + i * 6 + 3, none⟩) hlt).trans hb1'
        rw [hb1] at this
        injection this with this
        injection this with e1 _ e2
        exact ⟨e1, e2⟩
      obtain ⟨rfl, rfl⟩ := he1
      have HKC := Lib.hid hkc; have HST := Lib.hid hst; have HR1 := Lib.hid hr1; have HR2 := Lib.hid hr2; have HLT := Lib.hid hlt; have HCX := Lib.hid hcx
      clear hkc hst hr1 hr2 hcl hcx hbt hbt0 hb1' hlt hx
      by_cases hb3 : x.b.size ≤ 3000
      case neg =>
        have hbI : (3000 : Int) < (x.b.size : Int) := by omega
        have HW := Lib.hid (HWK.out _ HKC.out.below); have HB := Lib.hid HKC.out.below
        clear HKC HST HR1 HR2
        go_wp2_with fail
        refine HW.out.mono ?_
        rintro e w5 ⟨rfl, hb5⟩
        have HB5 := Lib.hid (HB0.out.trans ((HB.out.trans (hb5.mono HB.out.size)).mono HB0.out.size))
        clear hb5
        go_wp2
        go_ret
        exact ⟨rfl, HB5.out⟩
      have hbI : ¬ (3000 : Int) < (x.b.size : Int) := by omega
      have hw := kc_write HKC.out (by omega) HT.out HST.out hk hb3 (BtX.of_arg HBT.out HKC.out.below)
      have HW := Lib.hid hw
      clear hw
      go_wp2_with fail
      refine HW.out.mono ?_
      intro e w4 hP
      obtain ⟨L4, n4, v4, rfl, h4, hs4, hn4, hk4⟩ := hP.ok
      have hr1 := HR1.out.kp hk4 (by decide) (by decide)
      have hr2 := HR2.out.kp hk4 (by decide) (by decide)
      have hcv : (convert 33 9 (.slice A1 x.b.size cc1)).run Tryz.prog w4 = .ok (.string x.b) w4 := (HBT.out.below h4.below).conv
      have x3 : w4.cell? ⟨bb, oo + i * 6 + 3, none⟩ = some (.slice A1 x.b.size cc1) := by
        have e1 := h4.below.cell (p := ⟨bb, oo + i * 6 + 3, none⟩) HLT.out
        have e2 := HKC.out.below.cell (p := ⟨bb, oo + i * 6 + 3, none⟩) HLT.out
        exact (e1.trans e2.symm).trans hb1
      have y0 := hr1.cell hk; have f0 := hr1.frozen k
      have hm1 := Moved.set_ w4 g1 k none (.string x.b)
      have h5 := h4.moved hr1 (by decide) (by decide) (by decide) HG1.out hm1
      have hs5 : CkSt (w4.setCell ⟨g1, k, none⟩ (.string x.b)) gs p := Blk.moved hs4 hm1 (fun e => by subst e; exact blk_type hs4 hr1 (by decide))
      have hr15 := hr1.set_ k (.string x.b) (hvV (putC M k x.b)) (fun j _ => hv_put M k x.b j)
      have hr25 : RowK (w4.setCell ⟨g1, k, none⟩ (.string x.b)) (g1 + 1) 4 16 (isV M) := Blk.moved hr2 hm1 (by omega)
      have y1 := hr25.cell hk; have f1 := hr25.frozen k
      have hm2 := Moved.set_ (w4.setCell ⟨g1, k, none⟩ (.string x.b)) (g1 + 1) k none (.bool true)
      have h6 := h5.moved hr25 (by decide) (by decide) (by decide) (Nat.le_succ_of_le HG1.out) hm2
      have hs6 : CkSt ((w4.setCell ⟨g1, k, none⟩ (.string x.b)).setCell ⟨g1 + 1, k, none⟩ (.bool true)) gs p := Blk.moved hs5 hm2 (fun e => by subst e; exact blk_type hs5 hr25 (by decide))
      have hr26 := hr25.set_ k (.bool true) (isV (putC M k x.b)) (fun j _ => is_put M k x.b j)
      have hr16 : RowK ((w4.setCell ⟨g1, k, none⟩ (.string x.b)).setCell ⟨g1 + 1, k, none⟩ (.bool true)) g1 9 16 (hvV (putC M k x.b)) := Blk.moved hr15 hm2 (by omega)
      have H6 := Lib.hid h6; have HS6 := Lib.hid hs6; have HR16 := Lib.hid hr16; have HR26 := Lib.hid hr26
      have hkI : (k : Int) < 16 := by omega
      clear h4 hs4 hk4 hP hr1 hr2 hm1 h5 hs5 hr15 hr25 hm2 h6 hs6 hr16 hr26 HKC HST HR1 HR2 HW hb1 x1 HCX
      unfold hvV at y0
      unfold isV at y1
      go_wp2
      go_roundg gf
      case measure => omega
      case rel => exact ⟨i + 1, _, L4, n4, v4, by go_num, by omega, H6.out, HS6.out, HR16.out, HR26.out, by omega⟩
theorem again_card (w0 : World) (A : Option Addr) (c : Nat) (l : List CallC) (hA0 : CallsA w0 A l) (z : Int) (hz : 0 ≤ z ∧ z ≤ 255) (hT0 : Tb w0.heap.size w0) (hV0 : Ev w0.heap.size w0) :
    Calls Tryz.prog 3 #[.slice A l.length c, .int .u8 z] w0 fun e w' => e = .returned (.bool true) ∧ Below w0.heap.size w0 w' := by
  obtain ⟨n, rfl⟩ : ∃ n : Nat, z = (n : Int) := ⟨z.toNat, by omega⟩
  exact again_any w0 A c l hA0 n (by omega) hT0 hV0
end Go.Proofs.YthmcimpdehgaoaaGreatDoor
