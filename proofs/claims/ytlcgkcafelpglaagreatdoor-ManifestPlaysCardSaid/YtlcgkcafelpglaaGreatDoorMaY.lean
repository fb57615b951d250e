/- A store of manifests over a disk that is not armed: Open and Write, each as what it answers; the laws' short call: works. -/
import Derived.Test.YtlcgkcafelpglaaGreatDoorMaW
import Derived.Test.YtlcgkcafelpglaaGreatDoorMaX
namespace Go.Proofs.YtlcgkcafelpglaaGreatDoor
open Go.RowKit Go.Maps

theorem fitN_of {L : List FileD} {q n : Int} {k : Nat} (h0 : 0 ≤ n) (h1 : n + k ≤ 4611686018427387904) (h2 : L.length + k ≤ 10000000) (h3 : usedL L + 100 * k ≤ 1000000000) : FitN ⟨L, q, n, -1, false⟩ k :=
  ⟨h0, h1, h2, h3, Int.le_refl _, by show (-1 : Int) ≤ _; decide⟩
section
variable {X G L : List FileD} {q n : Int} {S : StD} {m : ManM} (hX : Oth X) (hS : StOk S)
include hX hS
theorem open_clean (hG : GOk G S) (h : Has L (G ++ (keptF S ++ X))) : newestD ⟨L, q, n, -1, false⟩ = S ∧ ∃ L' n', openD ⟨L, q, n, -1, false⟩ = (0, ⟨L', q, n', -1, false⟩) ∧ Has L' (keptF S ++ X) ∧ n ≤ n' ∧ n' ≤ n + 1 := by
  obtain ⟨h1, h2⟩ := open_has (q := q) (n := n) hX hS hG h (l := -1) (by decide)
  refine ⟨h1, ?_⟩
  rcases h2 with ⟨L', n', l', e, a1, a2, a3, a4, a5, a6⟩ | ⟨h3, _⟩
  · rw [a6 rfl] at e
    exact ⟨L', n', e, a1, a2, a3⟩
  · cases h3
theorem write_clean {T : List FileD} (hT : TOk T) (hm : m.Ok) (hy : (nextM S m).may = true) (h : Has L (T ++ (keptF S ++ X))) (hq : (usedL L : Int) + 50 ≤ q) :
    ∃ L' n', writeD ⟨L, q, n, -1, false⟩ S m = (0, ⟨L', q, n', -1, false⟩, ⟨nextM S m, true⟩) ∧ Has L' (fileM (nextM S m) :: X) ∧ n ≤ n' ∧ n' ≤ n + 5 := by
  obtain ⟨L', n', l', a1, a2, a3, a4, a5⟩ := write_has (q := q) (n := n) hX hS hm hy hT (l := -1) (by decide) h hq
  rcases a5 with ⟨b1, b2, b3⟩ | ⟨b1, _⟩
  · rw [b3 rfl] at b1
    exact ⟨L', n', b1, b2, a1, by omega⟩
  · exact absurd rfl b1
end
section
variable {w : World} {B p gs : Nat} {v : Value} {X G L : List FileD} {q n : Int} {S : StD} {m : ManM} (h : DiskIs w B p v ⟨L, q, n, -1, false⟩) (hT : Tb B w) (hX : Oth X) (hS : StOk S)
include h hT hX hS
theorem open_c (hB : B ≤ w.heap.size) (hf : FitN ⟨L, q, n, -1, false⟩ (L.length + 1)) (hG : GOk G S) (hh : Has L (G ++ (keptF S ++ X))) :
    Calls Tryz.prog 9 #[.pointer (some ⟨p, 0, none⟩)] w fun e w' => ∃ gs L' n' v1, e = .returned (.tuple #[.pointer (some ⟨gs, 0, none⟩), .int .i64 0]) ∧ Out B w w' p v ⟨L', q, n', -1, false⟩ v1 ∧ StIs w' gs p S ∧ w.heap.size ≤ gs ∧ Has L' (keptF S ++ X) ∧ n ≤ n' ∧ n' ≤ n + 1 := by
  obtain ⟨h1, L', n', h2, h3, h4, h5⟩ := open_clean (q := q) (n := n) hX hS hG hh
  refine (open_on w B p v _ h hB rfl hf hT).mono fun e w' hP => ?_
  obtain ⟨v1, ho, hc⟩ := hP
  rw [h2] at ho hc
  rw [h1] at hc
  rcases hc with ⟨hc, _⟩ | ⟨_, gs, he, hg, hst⟩
  · exact absurd rfl hc
  · exact ⟨gs, L', n', v1, he, ho, hst, hg, h3, h4, h5⟩
theorem write_c (hB : B ≤ gs) (hs : StIs w gs p S) (hf : FitN ⟨L, q, n, -1, false⟩ 6) (hm : m.Ok) (hy : (nextM S m).may = true) {T : List FileD} (hTT : TOk T) (hh : Has L (T ++ (keptF S ++ X))) (hq : (usedL L : Int) + 50 ≤ q) :
    Calls Tryz.prog 22 #[.pointer (some ⟨gs, 0, none⟩), .agg (mCells m)] w fun e w' => ∃ L' n' v1, e = .returned (.int .i64 0) ∧ Aft B gs w w' p v ⟨nextM S m, true⟩ ⟨L', q, n', -1, false⟩ v1 ∧ Has L' (fileM (nextM S m) :: X) ∧ n ≤ n' ∧ n' ≤ n + 5 := by
  obtain ⟨L', n', h2, h3, h4, h5⟩ := write_clean (q := q) (n := n) hX hS hTT hm hy hh hq
  refine (write_any w B p gs v _ S m h hB hs hf hT hm hS.nn).mono fun e w' hP => ?_
  obtain ⟨he, v1, ha⟩ := hP
  rw [h2] at he ha
  exact ⟨L', n', v1, he, ha, h3, h4, h5⟩
omit hX in
theorem write_no (hB : B ≤ gs) (hs : StIs w gs p S) (hf : FitN ⟨L, q, n, -1, false⟩ 6) (hm : m.Ok) (hy : (nextM S m).may = false) :
    Calls Tryz.prog 22 #[.pointer (some ⟨gs, 0, none⟩), .agg (mCells m)] w fun e w' => e = .returned (.int .i64 2) ∧ ∃ v1, Aft B gs w w' p v S ⟨L, q, n, -1, false⟩ v1 := by
  refine (write_any w B p gs v _ S m h hB hs hf hT hm hS.nn).mono fun e w' hP => ?_
  obtain ⟨he, v1, ha⟩ := hP
  rw [write_tail, if_pos hy] at he ha
  exact ⟨he, v1, ha⟩
end
theorem zeroS_ok : StOk ⟨zeroM, false⟩ := ⟨(fun h => by cases h), fun _ => rfl⟩
theorem used_one (m : ManM) {L : List FileD} (h : Has L [fileM m]) : usedL L = 50 := by
  rw [h.used]; simp [usedL, fileM, m.bytes_size]
def wm1 : ManM := ⟨0, 1, -1, 0, 0, false, 0⟩
def wm2 : ManM := ⟨0, 1, 0, 0, 0, false, 0⟩
def ws1 : StD := ⟨nextM ⟨zeroM, false⟩ wm1, true⟩
def ws2 : StD := ⟨nextM ws1 wm2, true⟩
theorem wm1_ok : wm1.Ok := ⟨⟨by decide, by decide⟩, ⟨by decide, by decide⟩, ⟨by decide, by decide⟩, ⟨by decide, by decide⟩, ⟨by decide, by decide⟩, by decide⟩
theorem wm2_ok : wm2.Ok := ⟨⟨by decide, by decide⟩, ⟨by decide, by decide⟩, ⟨by decide, by decide⟩, ⟨by decide, by decide⟩, ⟨by decide, by decide⟩, by decide⟩
theorem ws1_ok : StOk ws1 := ⟨fun _ => ⟨⟨⟨by decide, by decide⟩, ⟨by decide, by decide⟩, ⟨by decide, by decide⟩, ⟨by decide, by decide⟩, ⟨by decide, by decide⟩, by decide⟩, by decide⟩, fun h => by cases h⟩
theorem name2 : nameM 2 = ⟨#[109, 102, 46, 50]⟩ := by
  have h : Lib.itoa 2 = [50] := by
    rw [show (2 : Int) = ((2 : Nat) : Int) from rfl, Lib.itoa_nonneg, Lib.decDigits]; rfl
  unfold nameM
  rw [h]; rfl
theorem ws2_ok : StOk ws2 := ⟨fun _ => ⟨⟨⟨by decide, by decide⟩, ⟨by decide, by decide⟩, ⟨by decide, by decide⟩, ⟨by decide, by decide⟩, ⟨by decide, by decide⟩, by decide⟩, by decide⟩, fun h => by cases h⟩
theorem oth_nil : Oth [] := fun _ h => by cases h
set_option maxRecDepth 100000 in
set_option maxHeartbeats 8000000 in
theorem works_any (w : World) (hT : Tb w.heap.size w) : Calls Tryz.prog 6 #[] w fun e w' => e = .returned (.bool true) ∧ Below w.heap.size w w' := by
  have HT := Lib.hid hT
  clear hT
  go_enter Tryz.func6, Tryz.ntmps6
  go_wp2_with fail
  refine (new_any 1000 _).mono ?_
  rintro e w1 ⟨rfl, hd1, hb1⟩
  have hc := open_c (G := []) (S := ⟨zeroM, false⟩) (L := []) (q := 1000) (n := 0) hd1 (HT.out.on hb1) oth_nil zeroS_ok hb1.size (fitN_of (by decide) (by decide) (by decide) (by decide)) (.inl (.inl rfl)) has_nil
  have HC := Lib.hid hc; have HB1 := Lib.hid hb1
  clear hc hd1 hb1
  go_wp2_with fail
  refine HC.out.mono ?_
  rintro e w2 ⟨gs, L2, n2, v2, rfl, ho, hst, hgs, hh, hn1, hn2⟩
  obtain rfl := hh.nil_eq
  have hb2 := HB1.out.trans (ho.below.mono (Nat.le_refl _))
  have hN := newest_any w2 gs w.heap.size _ hst
  have hgw : w.heap.size ≤ gs := Nat.le_trans HB1.out.size hgs
  have HD2 := Lib.hid ho.is; have HB2 := Lib.hid hb2; have HN := Lib.hid hN; have HST2 := Lib.hid hst
  clear ho hst hgs hh hb2 hN HC HB1
  go_wp2_with fail
  refine HN.out.mono ?_
  rintro e w3 ⟨rfl, hb3⟩
  have hz7 : mCells zeroM = #[.int .i64 0, .int .i64 0, .int .i64 0, .int .i64 0, .int .i64 0, .bool false, .int .u32 0] := rfl
  have hk3 := Blk.new w3 38 #[.int .i64 0, .int .i64 0, .int .i64 0, .int .i64 0, .int .i64 0, .bool false, .int .u32 0]
  have hone := mCells_oneA zeroM
  have hb4 := below_row ((Below.refl w3.heap.size w3).alloc (Nat.le_refl _) (.cells #[.int .i64 0, .int .i64 0, .int .i64 0, .int .i64 0, .int .i64 0, .bool false, .int .u32 0] 38)) (Nat.le_refl _) #[.int .i64 0, .int .i64 0, .int .i64 0, .int .i64 0, .int .i64 0, .bool false, .int .u32 0]
  rw [hz7] at hone
  have hb24 := hb3.trans (hb4.mono hb3.size)
  rw [hz7]
  have HK3 := Lib.hid hk3; have HONE := Lib.hid hone; have HB24 := Lib.hid hb24
  clear hz7 hk3 hone hb4 hb24 hb3 HN
  go_wp2_with (first | (refine wpList_store_row rfl 38 (.tmp 4) (.tmp 22) rfl w3.heap.size #[.int .i64 0, .int .i64 0, .int .i64 0, .int .i64 0, .int .i64 0, .bool false, .int .u32 0] rfl rfl 38 _ HK3.out infoMf rfl HONE.out ?_))
  obtain ⟨w4, hw4⟩ : ∃ w4, (w3.alloc (.cells #[.int .i64 0, .int .i64 0, .int .i64 0, .int .i64 0, .int .i64 0, .bool false, .int .u32 0] 38)).setRow w3.heap.size #[.int .i64 0, .int .i64 0, .int .i64 0, .int .i64 0, .int .i64 0, .bool false, .int .u32 0] = w4 := ⟨_, rfl⟩
  rw [hw4] at HB24 ⊢
  have hb4 := HB2.out.trans (HB24.out.mono HB2.out.size)
  have hc := write_c (S := ⟨zeroM, false⟩) (L := []) (q := 1000) (n := n2) (X := []) (T := []) (m := wm1) (HD2.out.below HB24.out (Nat.le_refl _)) (HT.out.on hb4) oth_nil zeroS_ok hgw (HST2.out.below HB24.out) (fitN_of (by omega) (by omega) (by decide) (by decide)) wm1_ok rfl (.inl rfl) has_nil (by decide)
  rw [show mCells wm1 = #[.int .i64 0, .int .i64 1, .int .i64 (-1), .int .i64 0, .int .i64 0, .bool false, .int .u32 0] from rfl] at hc
  have HC := Lib.hid hc; have HB4 := Lib.hid hb4
  clear hc hb4 hw4 HD2 HB2 HST2 HB24 HK3 HONE
  refine HC.out.mono ?_
  rintro e w5 ⟨L5, n5, v5, rfl, a5, h5, hn5, hn6⟩
  have u5 := used_one _ h5
  have l5 := h5.length
  have hb5 := HB4.out.trans a5.below
  have hc := write_c (S := ws1) (L := L5) (q := 1000) (n := n5) (X := []) (T := []) (m := wm2) a5.is (HT.out.on hb5) oth_nil ws1_ok hgw a5.st (fitN_of (by omega) (by omega) (by rw [l5]; decide) (by rw [u5]; decide)) wm2_ok rfl (.inl rfl) h5 (by rw [u5]; decide)
  rw [show mCells wm2 = #[.int .i64 0, .int .i64 1, .int .i64 0, .int .i64 0, .int .i64 0, .bool false, .int .u32 0] from rfl] at hc
  have HC5 := Lib.hid hc; have HB5 := Lib.hid hb5
  clear hc hb5 a5 h5 u5 l5 HC HB4
  go_wp2_with fail
  refine HC5.out.mono ?_
  rintro e w6 ⟨L6, n6, v6, rfl, a6, h6, hn7, hn8⟩
  have hb6 := HB5.out.trans a6.below
  have hN := newest_any w6 gs w.heap.size _ a6.st
  obtain rfl := h6.one_eq
  have HD6 := Lib.hid a6.is; have HB6 := Lib.hid hb6; have HN := Lib.hid hN
  clear hb6 a6 h6 hN HC5 HB5
  go_wp2_with fail
  refine HN.out.mono ?_
  rintro e w7 ⟨rfl, hb7⟩
  have hz7 : mCells ws2.m = #[.int .i64 2, .int .i64 1, .int .i64 0, .int .i64 0, .int .i64 0, .bool false, .int .u32 0] := rfl
  have hk3 := Blk.new w7 38 #[.int .i64 0, .int .i64 0, .int .i64 0, .int .i64 0, .int .i64 0, .bool false, .int .u32 0]
  have hk4 := hk3.setRow #[.int .i64 2, .int .i64 1, .int .i64 0, .int .i64 0, .int .i64 0, .bool false, .int .u32 0]
  have hone := mCells_oneA ws2.m
  have hb8 := below_row ((Below.refl w7.heap.size w7).alloc (Nat.le_refl _) (.cells #[.int .i64 0, .int .i64 0, .int .i64 0, .int .i64 0, .int .i64 0, .bool false, .int .u32 0] 38)) (Nat.le_refl _) #[.int .i64 2, .int .i64 1, .int .i64 0, .int .i64 0, .int .i64 0, .bool false, .int .u32 0]
  rw [hz7] at hone
  have hb68 := hb7.trans (hb8.mono hb7.size)
  rw [show nextM ws1 wm2 = ws2.m from rfl, hz7]
  have HK3 := Lib.hid hk3; have HK4 := Lib.hid hk4; have HONE := Lib.hid hone; have HB68 := Lib.hid hb68
  clear hz7 hk3 hk4 hone hb8 hb68 hb7 HN
  go_wp2_with (first | (refine wpList_store_row rfl 38 (.tmp 8) (.tmp 33) rfl w7.heap.size #[.int .i64 2, .int .i64 1, .int .i64 0, .int .i64 0, .int .i64 0, .bool false, .int .u32 0] rfl rfl 38 _ HK3.out infoMf rfl HONE.out ?_))
  obtain ⟨w8, hw8⟩ : ∃ w8, (w7.alloc (.cells #[.int .i64 0, .int .i64 0, .int .i64 0, .int .i64 0, .int .i64 0, .bool false, .int .u32 0] 38)).setRow w7.heap.size #[.int .i64 2, .int .i64 1, .int .i64 0, .int .i64 0, .int .i64 0, .bool false, .int .u32 0] = w8 := ⟨_, rfl⟩
  rw [hw8] at HB68 HK4 ⊢
  have hn := names_any w8 _ _ _ _ (HD6.out.below HB68.out (Nat.le_refl _)) (by simp)
  have HB8 := Lib.hid (HB6.out.trans (HB68.out.mono HB6.out.size)); have HN8 := Lib.hid hn
  clear hn hw8 HD6 HB6 HB68 HONE HK3
  refine HN8.out.mono ?_
  rintro e w9 ⟨A, c, rfl, hrd, hb9⟩
  obtain ⟨ad, u, rfl, hx, hcl⟩ := Rd.at_ (k := 0) hrd (by simp)
  have hu : u = .string ⟨#[109, 102, 46, 50]⟩ := by
    have h1 : ([fileM (nextM ws1 wm2)].map fun f => Value.string f.name)[0]? = some (.string (nameM 2)) := rfl
    rw [hx, name2] at h1
    injection h1
  subst hu
  have hk9 := HK4.out.below hb9 HK4.out.lt
  have c0 := hk9.cell 0; have c2 := hk9.cell 2
  simp only [List.getElem?_toArray, List.getElem?_cons_zero, List.getElem?_cons_succ] at c0 c2
  have HB9 := Lib.hid (HB8.out.trans (hb9.mono HB8.out.size))
  have ha0 : ad.add 0 = ad := by unfold Addr.add; simp
  rw [ha0] at hcl
  clear hrd hx hk9 hb9 HB8 HN8 HK4 ha0
  go_wp2
  go_ret
  exact ⟨rfl, HB9.out⟩
end Go.Proofs.YtlcgkcafelpglaaGreatDoor
