/- A store of manifests over a disk that is not armed: Open and Write, each as what it answers; the laws' short call: works. A store of manifests amid others' files, as the laws' rounds see it: its state, Write, Open, Newest. The power comes on again: what stays of files that are safe, and of the one that is not, in plain words. -/
import Derived.Test.YtlcgkcafelpglaaGreatDoorMaW
import Derived.Test.YtlcgkcafelpglaaGreatDoorMaX
namespace Go.Proofs.YtlcgkcafelpglaaGreatDoor
open Go.RowKit Go.Maps

theorem fitN_of {L : List FileD} {q n : Int} {k : Nat} (h0 : 0 ≤ n) (h1 : n + k ≤ 4611686018427387904) (h2 : L.length + k ≤ 10000000) (h3 : usedL L + 100 * k ≤ 1000000000) : FitN ⟨L, q, n, -1, false⟩ k :=
  ⟨h0, h1, h2, h3, Int.le_refl _, by show (-1 : Int) ≤ _; decide⟩
section
variable {X G L : List FileD} {q n : Int} {S : StD} {m : ManM} (hX : Oth X) (hS : StOk S)
include hX hS
theorem open_clean (hG : GOk G S) (h : Has L (G ++ (keptF S ++ X))) : newestD ⟨L, q, n, -1, false⟩ = S ∧ ∃ L' n', openD ⟨L, q, n, -1, false⟩ = (0, ⟨L', q, n', -1, false⟩) ∧ Has L' (keptF S ++ X) ∧ n ≤ n' ∧ n' ≤ n + 1 := by
  obtain ⟨h1, h2⟩ := open_has (q := q) (n := n) hX hS hG h (l := -1) (by decide)
  refine ⟨h1, ?_⟩
  rcases h2 with ⟨L', n', l', e, a1, a2, a3, a4, a5, a6⟩ | ⟨h3, _⟩
  · rw [a6 rfl] at e
    exact ⟨L', n', e, a1, a2, a3⟩
  · cases h3
theorem write_clean {T : List FileD} (hT : TOk T) (hm : m.Ok) (hy : (nextM S m).may = true) (h : Has L (T ++ (keptF S ++ X))) (hq : (usedL L : Int) + 50 ≤ q) :
    ∃ L' n', writeD ⟨L, q, n, -1, false⟩ S m = (0, ⟨L', q, n', -1, false⟩, ⟨nextM S m, true⟩) ∧ Has L' (fileM (nextM S m) :: X) ∧ n ≤ n' ∧ n' ≤ n + 5 := by
  obtain ⟨L', n', l', a1, a2, a3, a4, a5⟩ := write_has (q := q) (n := n) hX hS hm hy hT (l := -1) (by decide) h hq
  rcases a5 with ⟨b1, b2, b3⟩ | ⟨b1, _⟩
  · rw [b3 rfl] at b1
    exact ⟨L', n', b1, b2, a1, by omega⟩
  · exact absurd rfl b1
end
section
variable {w : World} {B p gs : Nat} {v : Value} {X G L : List FileD} {q n : Int} {S : StD} {m : ManM} (h : DiskIs w B p v ⟨L, q, n, -1, false⟩) (hT : Tb B w) (hX : Oth X) (hS : StOk S)
include h hT hX hS
theorem open_c (hB : B ≤ w.heap.size) (hf : FitN ⟨L, q, n, -1, false⟩ (L.length + 1)) (hG : GOk G S) (hh : Has L (G ++ (keptF S ++ X))) :
    Calls Tryz.prog 9 #[.pointer (some ⟨p, 0, none⟩)] w fun e w' => ∃ gs L' n' v1, e = .returned (.tuple #[.pointer (some ⟨gs, 0, none⟩), .int .i64 0]) ∧ Out B w w' p v ⟨L', q, n', -1, false⟩ v1 ∧ StIs w' gs p S ∧ w.heap.size ≤ gs ∧ Has L' (keptF S ++ X) ∧ n ≤ n' ∧ n' ≤ n + 1 := by
  obtain ⟨h1, L', n', h2, h3, h4, h5⟩ := open_clean (q := q) (n := n) hX hS hG hh
  refine (open_on w B p v _ h hB rfl hf hT).mono fun e w' hP => ?_
  obtain ⟨v1, ho, hc⟩ := hP
  rw [h2] at ho hc
  rw [h1] at hc
  rcases hc with ⟨hc, _⟩ | ⟨_, gs, he, hg, hst⟩
  · exact absurd rfl hc
  · exact ⟨gs, L', n', v1, he, ho, hst, hg, h3, h4, h5⟩
theorem write_c (hB : B ≤ gs) (hs : StIs w gs p S) (hf : FitN ⟨L, q, n, -1, false⟩ 6) (hm : m.Ok) (hy : (nextM S m).may = true) {T : List FileD} (hTT : TOk T) (hh : Has L (T ++ (keptF S ++ X))) (hq : (usedL L : Int) + 50 ≤ q) :
    Calls Tryz.prog 22 #[.pointer (some ⟨gs, 0, none⟩), .agg (mCells m)] w fun e w' => ∃ L' n' v1, e = .returned (.int .i64 0) ∧ Aft B gs w w' p v ⟨nextM S m, true⟩ ⟨L', q, n', -1, false⟩ v1 ∧ Has L' (fileM (nextM S m) :: X) ∧ n ≤ n' ∧ n' ≤ n + 5 := by
  obtain ⟨L', n', h2, h3, h4, h5⟩ := write_clean (q := q) (n := n) hX hS hTT hm hy hh hq
  refine (write_any w B p gs v _ S m h hB hs hf hT hm hS.nn).mono fun e w' hP => ?_
  obtain ⟨he, v1, ha⟩ := hP
  rw [h2] at he ha
  exact ⟨L', n', v1, he, ha, h3, h4, h5⟩
omit hX in
theorem write_no (hB : B ≤ gs) (hs : StIs w gs p S) (hf : FitN ⟨L, q, n, -1, false⟩ 6) (hm : m.Ok) (hy : (nextM S m).may = false) :
    Calls Tryz.prog 22 #[.pointer (some ⟨gs, 0, none⟩), .agg (mCells m)] w fun e w' => e = .returned (.int .i64 2) ∧ ∃ v1, Aft B gs w w' p v S ⟨L, q, n, -1, false⟩ v1 := by
  refine (write_any w B p gs v _ S m h hB hs hf hT hm hS.nn).mono fun e w' hP => ?_
  obtain ⟨he, v1, ha⟩ := hP
  rw [write_tail, if_pos hy] at he ha
  exact ⟨he, v1, ha⟩
end
theorem zeroS_ok : StOk ⟨zeroM, false⟩ := ⟨(fun h => by cases h), fun _ => rfl⟩
theorem used_one (m : ManM) {L : List FileD} (h : Has L [fileM m]) : usedL L = 50 := by
  rw [h.used]; simp [usedL, fileM, m.bytes_size]
def wm1 : ManM := ⟨0, 1, -1, 0, 0, false, 0⟩
def wm2 : ManM := ⟨0, 1, 0, 0, 0, false, 0⟩
def ws1 : StD := ⟨nextM ⟨zeroM, false⟩ wm1, true⟩
def ws2 : StD := ⟨nextM ws1 wm2, true⟩
theorem wm1_ok : wm1.Ok := ⟨⟨by decide, by decide⟩, ⟨by decide, by decide⟩, ⟨by decide, by decide⟩, ⟨by decide, by decide⟩, ⟨by decide, by decide⟩, by decide⟩
theorem wm2_ok : wm2.Ok := ⟨⟨by decide, by decide⟩, ⟨by decide, by decide⟩, ⟨by decide, by decide⟩, ⟨by decide, by decide⟩, ⟨by decide, by decide⟩, by decide⟩
theorem ws1_ok : StOk ws1 := ⟨fun _ => ⟨⟨⟨by decide, by decide⟩, ⟨by decide, by decide⟩, ⟨by decide, by decide⟩, ⟨by decide, by decide⟩, ⟨by decide, by decide⟩, by decide⟩, by decide⟩, fun h => by cases h⟩
theorem name2 : nameM 2 = ⟨#[109, 102, 46, 50]⟩ := by
  have h : Lib.itoa 2 = [50] := by
    rw [show (2 : Int) = ((2 : Nat) : Int) from rfl, Lib.itoa_nonneg, Lib.decDigits]; rfl
  unfold nameM
  rw [h]; rfl
theorem ws2_ok : StOk ws2 := ⟨fun _ => ⟨⟨⟨by decide, by decide⟩, ⟨by decide, by decide⟩, ⟨by decide, by decide⟩, ⟨by decide, by decide⟩, ⟨by decide, by decide⟩, by decide⟩, by decide⟩, fun h => by cases h⟩
theorem oth_nil : Oth [] := fun _ h => by cases h
set_option maxRecDepth 100000 in
set_option maxHeartbeats 8000000 in
theorem works_any (w : World) (hT : Tb w.heap.size w) : Calls Tryz.prog 6 #[] w fun e w' => e = .returned (.bool true) ∧ Below w.heap.size w w' := by
  have HT := Lib.hid hT
  clear hT
  go_enter Tryz.func6, Tryz.ntmps6
  go_wp2_with fail
  refine (new_any 1000 _).mono ?_
  rintro e w1 ⟨rfl, hd1, hb1⟩
  have hc := open_c (G := []) (S := ⟨zeroM, false⟩) (L := []) (q := 1000) (n := 0) hd1 (HT.out.on hb1) oth_nil zeroS_ok hb1.size (fitN_of (by decide) (by decide) (by decide) (by decide)) (.inl (.inl rfl)) has_nil
  have HC := Lib.hid hc; have HB1 := Lib.hid hb1
  clear hc hd1 hb1
  go_wp2_with fail
  refine HC.out.mono ?_
  rintro e w2 ⟨gs, L2, n2, v2, rfl, ho, hst, hgs, hh, hn1, hn2⟩
  obtain rfl := hh.nil_eq
  have hb2 := HB1.out.trans (ho.below.mono (Nat.le_refl _))
  have hN := newest_any w2 gs w.heap.size _ hst
  have hgw : w.heap.size ≤ gs := Nat.le_trans HB1.out.size hgs
  have HD2 := Lib.hid ho.is; have HB2 := Lib.hid hb2; have HN := Lib.hid hN; have HST2 := Lib.hid hst
  clear ho hst hgs hh hb2 hN HC HB1
  go_wp2_with fail
  refine HN.out.mono ?_
  rintro e w3 ⟨rfl, hb3⟩
  have hz7 : mCells zeroM = #[.int .i64 0, .int .i64 0, .int .i64 0, .int .i64 0, .int .i64 0, .bool false, .int .u32 0] := rfl
  have hk3 := Blk.new w3 38 #[.int .i64 0, .int .i64 0, .int .i64 0, .int .i64 0, .int .i64 0, .bool false, .int .u32 0]
  have hone := mCells_oneA zeroM
  have hb4 := below_row ((Below.refl w3.heap.size w3).alloc (Nat.le_refl _) (.cells #[.int .i64 0, .int .i64 0, .int .i64 0, .int .i64 0, .int .i64 0, .bool false, .int .u32 0] 38)) (Nat.le_refl _) #[.int .i64 0, .int .i64 0, .int .i64 0, .int .i64 0, .int .i64 0, .bool false, .int .u32 0]
  rw [hz7] at hone
  have hb24 := hb3.trans (hb4.mono hb3.size)
  rw [hz7]
  have HK3 := Lib.hid hk3; have HONE := Lib.hid hone; have HB24 := Lib.hid hb24
  clear hz7 hk3 hone hb4 hb24 hb3 HN
  go_wp2_with (first | (refine wpList_store_row rfl 38 (.tmp 4) (.tmp 22) rfl w3.heap.size #[.int .i64 0, .int .i64 0, .int .i64 0, .int .i64 0, .int .i64 0, .bool false, .int .u32 0] rfl rfl 38 _ HK3.out infoMf rfl HONE.out ?_))
  obtain ⟨w4, hw4⟩ : ∃ w4, (w3.alloc (.cells #[.int .i64 0, .int .i64 0, .int .i64 0, .int .i64 0, .int .i64 0, .bool false, .int .u32 0] 38)).setRow w3.heap.size #[.int .i64 0, .int .i64 0, .int .i64 0, .int .i64 0, .int .i64 0, .bool false, .int .u32 0] = w4 := ⟨_, rfl⟩
  rw [hw4] at HB24 ⊢
  have hb4 := HB2.out.trans (HB24.out.mono HB2.out.size)
  have hc := write_c (S := ⟨zeroM, false⟩) (L := []) (q := 1000) (n := n2) (X := []) (T := []) (m := wm1) (HD2.out.below HB24.out (Nat.le_refl _)) (HT.out.on hb4) oth_nil zeroS_ok hgw (HST2.out.below HB24.out) (fitN_of (by omega) (by omega) (by decide) (by decide)) wm1_ok rfl (.inl rfl) has_nil (by decide)
  rw [show mCells wm1 = #[.int .i64 0, .int .i64 1, .int .i64 (-1), .int .i64 0, .int .i64 0, .bool false, .int .u32 0] from rfl] at hc
  have HC := Lib.hid hc; have HB4 := Lib.hid hb4
  clear hc hb4 hw4 HD2 HB2 HST2 HB24 HK3 HONE
  refine HC.out.mono ?_
  rintro e w5 ⟨L5, n5, v5, rfl, a5, h5, hn5, hn6⟩
  have u5 := used_one _ h5
  have l5 := h5.length
  have hb5 := HB4.out.trans a5.below
  have hc := write_c (S := ws1) (L := L5) (q := 1000) (n := n5) (X := []) (T := []) (m := wm2) a5.is (HT.out.on hb5) oth_nil ws1_ok hgw a5.st (fitN_of (by omega) (by omega) (by rw [l5]; decide) (by rw [u5]; decide)) wm2_ok rfl (.inl rfl) h5 (by rw [u5]; decide)
  rw [show mCells wm2 = #[.int .i64 0, .int .i64 1, .int .i64 0, .int .i64 0, .int .i64 0, .bool false, .int .u32 0] from rfl] at hc
  have HC5 := Lib.hid hc; have HB5 := Lib.hid hb5
  clear hc hb5 a5 h5 u5 l5 HC HB4
  go_wp2_with fail
  refine HC5.out.mono ?_
  rintro e w6 ⟨L6, n6, v6, rfl, a6, h6, hn7, hn8⟩
  have hb6 := HB5.out.trans a6.below
  have hN := newest_any w6 gs w.heap.size _ a6.st
  obtain rfl := h6.one_eq
  have HD6 := Lib.hid a6.is; have HB6 := Lib.hid hb6; have HN := Lib.hid hN
  clear hb6 a6 h6 hN HC5 HB5
  go_wp2_with fail
  refine HN.out.mono ?_
  rintro e w7 ⟨rfl, hb7⟩
  have hz7 : mCells ws2.m = #[.int .i64 2, .int .i64 1, .int .i64 0, .int .i64 0, .int .i64 0, .bool false, .int .u32 0] := rfl
  have hk3 := Blk.new w7 38 #[.int .i64 0, .int .i64 0, .int .i64 0, .int .i64 0, .int .i64 0, .bool false, .int .u32 0]
  have hk4 := hk3.setRow #[.int .i64 2, .int .i64 1, .int .i64 0, .int .i64 0, .int .i64 0, .bool false, .int .u32 0]
  have hone := mCells_oneA ws2.m
  have hb8 := below_row ((Below.refl w7.heap.size w7).alloc (Nat.le_refl _) (.cells #[.int .i64 0, .int .i64 0, .int .i64 0, .int .i64 0, .int .i64 0, .bool false, .int .u32 0] 38)) (Nat.le_refl _) #[.int .i64 2, .int .i64 1, .int .i64 0, .int .i64 0, .int .i64 0, .bool false, .int .u32 0]
  rw [hz7] at hone
  have hb68 := hb7.trans (hb8.mono hb7.size)
  rw [show nextM ws1 wm2 = ws2.m from rfl, hz7]
  have HK3 := Lib.hid hk3; have HK4 := Lib.hid hk4; have HONE := Lib.hid hone; have HB68 := Lib.hid hb68
  clear hz7 hk3 hk4 hone hb8 hb68 hb7 HN
  go_wp2_with (first | (refine wpList_store_row rfl 38 (.tmp 8) (.tmp 33) rfl w7.heap.size #[.int .i64 2, .int .i64 1, .int .i64 0, .int .i64 0, .int .i64 0, .bool false, .int .u32 0] rfl rfl 38 _ HK3.out infoMf rfl HONE.out ?_))
  obtain ⟨w8, hw8⟩ : ∃ w8, (w7.alloc (.cells #[.int .i64 0, .int .i64 0, .int .i64 0, .int .i64 0, .int .i64 0, .bool false, .int .u32 0] 38)).setRow w7.heap.size #[.int .i64 2, .int .i64 1, .int .i64 0, .int .i64 0, .int .i64 0, .bool false, .int .u32 0] = w8 := ⟨_, rfl⟩
  rw [hw8] at HB68 HK4 ⊢
  have hn := names_any w8 _ _ _ _ (HD6.out.below HB68.out (Nat.le_refl _)) (by simp)
  have HB8 := Lib.hid (HB6.out.trans (HB68.out.mono HB6.out.size)); have HN8 := Lib.hid hn
  clear hn hw8 HD6 HB6 HB68 HONE HK3
  refine HN8.out.mono ?_
  rintro e w9 ⟨A, c, rfl, hrd, hb9⟩
  obtain ⟨ad, u, rfl, hx, hcl⟩ := Rd.at_ (k := 0) hrd (by simp)
  have hu : u = .string ⟨#[109, 102, 46, 50]⟩ := by
    have h1 : ([fileM (nextM ws1 wm2)].map fun f => Value.string f.name)[0]? = some (.string (nameM 2)) := rfl
    rw [hx, name2] at h1
    injection h1
  subst hu
  have hk9 := HK4.out.below hb9 HK4.out.lt
  have c0 := hk9.cell 0; have c2 := hk9.cell 2
  simp only [List.getElem?_toArray, List.getElem?_cons_zero, List.getElem?_cons_succ] at c0 c2
  have HB9 := Lib.hid (HB8.out.trans (hb9.mono HB8.out.size))
  have ha0 : ad.add 0 = ad := by unfold Addr.add; simp
  rw [ha0] at hcl
  clear hrd hx hk9 hb9 HB8 HN8 HK4 ha0
  go_wp2
  go_ret
  exact ⟨rfl, HB9.out⟩
end Go.Proofs.YtlcgkcafelpglaaGreatDoor
namespace Go.Proofs.YtlcgkcafelpglaaGreatDoor
open Go.RowKit Go.Maps

/-- a store over a disk of a quota, others' files X, behind some steps -/
structure StSt (w wr : World) (p gs : Nat) (v : Value) (q : Int) (X L : List FileD) (n : Int) (S : StD) : Prop where
  is : DiskIs wr w.heap.size p v ⟨L, q, n, -1, false⟩
  st : StIs wr gs p S
  gl : w.heap.size ≤ gs
  below : Below w.heap.size w wr
  ok : StOk S
  has : Has L (keptF S ++ X)
  n0 : 0 ≤ n
theorem StOk.some_eq {S : StD} (h : StOk S) : S.some = decide (0 < S.m.n) := by
  cases hs : S.some with
  | true => have := (h.1 hs).pos; exact (decide_eq_true (by omega)).symm
  | false => rw [h.2 hs]; rfl
theorem nextS_ok {S : StD} {m : ManM} (h : StOk S) (hm : m.Ok) (hy : (nextM S m).may = true) : StOk ⟨nextM S m, true⟩ := ⟨fun _ => next_good h hm hy, fun e => by cases e⟩
theorem kept_used {S : StD} {L X : List FileD} (h : Has L (keptF S ++ X)) : usedL L ≤ 50 + usedL X ∧ L.length ≤ 1 + X.length := by
  rw [h.used, h.length, usedL_append, List.length_append]
  unfold keptF
  split
  · have : usedL [fileM S.m] = 50 := by simp [usedL, fileM, S.m.bytes_size]
    rw [this]; exact ⟨Nat.le_refl _, Nat.le_refl _⟩
  · have : usedL [] = 0 := rfl
    rw [this]; simp
section
variable {w wr w2 : World} {p gs : Nat} {v v2 : Value} {q n : Int} {X L : List FileD} {S : StD} {m : ManM}
theorem StSt.below_ (a : StSt w wr p gs v q X L n S) (hb : Below wr.heap.size wr w2) : StSt w w2 p gs v q X L n S :=
  ⟨a.is.below hb (Nat.le_refl _), a.st.below hb, a.gl, a.below.trans (hb.mono a.below.size), a.ok, a.has, a.n0⟩
theorem StSt.fit (a : StSt w wr p gs v q X L n S) (hn : n ≤ 1000000) (hX : usedL X ≤ 1000000 ∧ X.length ≤ 1000) : FitN ⟨L, q, n, -1, false⟩ (L.length + 6) := by
  have h := kept_used a.has
  exact fitN_of a.n0 (by omega) (by omega) (by omega)
theorem st_write (a : StSt w wr p gs v q X L n S) (hX : Oth X) (hT : Tb w.heap.size w) (hn : n ≤ 1000000) (hXs : usedL X ≤ 1000000 ∧ X.length ≤ 1000) (hq : (usedL X : Int) + 100 ≤ q) (hm : m.Ok) (hy : (nextM S m).may = true) :
    Calls Tryz.prog 22 #[.pointer (some ⟨gs, 0, none⟩), .agg (mCells m)] wr fun e w' => e = .returned (.int .i64 0) ∧ ∃ L' n' v', StSt w w' p gs v' q X L' n' ⟨nextM S m, true⟩ ∧ n' ≤ n + 5 ∧ Aft w.heap.size gs wr w' p v ⟨nextM S m, true⟩ ⟨L', q, n', -1, false⟩ v' := by
  have h := kept_used a.has
  refine (write_c (T := []) a.is (hT.on a.below) hX a.ok a.gl a.st ((a.fit hn hXs).less (by omega)) hm hy (.inl rfl) a.has (by omega)).mono fun e w' ⟨L', n', v', he, ha, hh, h1, h2⟩ => ?_
  exact ⟨he, L', n', v', ⟨ha.is, ha.st, a.gl, a.below.trans ha.below, nextS_ok a.ok hm hy, hh, by have := a.n0; omega⟩, h2, ha⟩
theorem st_write_no (a : StSt w wr p gs v q X L n S) (hT : Tb w.heap.size w) (hn : n ≤ 1000000) (hXs : usedL X ≤ 1000000 ∧ X.length ≤ 1000) (hm : m.Ok) (hy : (nextM S m).may = false) :
    Calls Tryz.prog 22 #[.pointer (some ⟨gs, 0, none⟩), .agg (mCells m)] wr fun e w' => e = .returned (.int .i64 2) ∧ ∃ v', StSt w w' p gs v' q X L n S ∧ Aft w.heap.size gs wr w' p v S ⟨L, q, n, -1, false⟩ v' := by
  refine (write_no a.is (hT.on a.below) a.ok a.gl a.st ((a.fit hn hXs).less (by omega)) hm hy).mono fun e w' ⟨he, v', ha⟩ => ?_
  exact ⟨he, v', ⟨ha.is, ha.st, a.gl, a.below.trans ha.below, a.ok, a.has, a.n0⟩, ha⟩
theorem st_open (a : StSt w wr p gs v q X L n S) (hX : Oth X) (hT : Tb w.heap.size w) (hn : n ≤ 1000000) (hXs : usedL X ≤ 1000000 ∧ X.length ≤ 1000) :
    Calls Tryz.prog 9 #[.pointer (some ⟨p, 0, none⟩)] wr fun e w' => ∃ g2, e = .returned (.tuple #[.pointer (some ⟨g2, 0, none⟩), .int .i64 0]) ∧ ∃ L' n' v', StSt w w' p g2 v' q X L' n' S ∧ n' ≤ n + 1 ∧ Out w.heap.size wr w' p v ⟨L', q, n', -1, false⟩ v' ∧ wr.heap.size ≤ g2 := by
  refine (open_c (G := []) a.is (hT.on a.below) hX a.ok a.below.size ((a.fit hn hXs).less (by omega)) (.inl (.inl rfl)) a.has).mono fun e w' ⟨g2, L', n', v', he, ho, hst, hg, hh, h1, h2⟩ => ?_
  exact ⟨g2, he, L', n', v', ⟨ho.is, hst, Nat.le_trans a.below.size hg, a.below.trans ho.below, a.ok, hh, by have := a.n0; omega⟩, h2, ho, hg⟩
end
end Go.Proofs.YtlcgkcafelpglaaGreatDoor
namespace Go.Proofs.YtlcgkcafelpglaaGreatDoor
open Go.RowKit

theorem mem_onGo (g : FileD) : ∀ (L : List FileD) (ks : List Int), g ∈ onGo L ks ↔ ∃ (i : Nat) (f : FileD), L[i]? = some f ∧ g ∈ keptL f ks[i]? := by
  intro L
  induction L with
  | nil => intro ks; simp [onGo]
  | cons f L ih =>
    intro ks
    rw [onGo, List.mem_append, ih]
    constructor
    · rintro (h | ⟨i, f', h1, h2⟩)
      · exact ⟨0, f, rfl, by rwa [← List.head?_eq_getElem?]⟩
      · exact ⟨i + 1, f', by simpa using h1, by rwa [List.getElem?_tail] at h2⟩
    · rintro ⟨i, f', h1, h2⟩
      cases i with
      | zero =>
        simp at h1
        subst h1
        exact .inl (by rwa [List.head?_eq_getElem?])
      | succ i => exact .inr ⟨i, f', by simpa using h1, by rwa [List.getElem?_tail]⟩
/-- a file all of whose bytes are safe -/
def Sure (f : FileD) : Prop := f.safe = f.b.size
theorem kept_sure {f : FileD} (h : Sure f) (k : Option Int) : keptL f k = [f] := by
  unfold Sure at h
  have hk : keptN f k = f.b.size := by
    unfold keptN
    cases k with
    | none => dsimp only; omega
    | some k =>
      dsimp only
      have h1 : f.safe.toNat = f.b.size := by omega
      rw [h1, Nat.sub_self]
      have : k % ((0 : Nat) + 1 : Int) = 0 := by simp
      rw [this]
      simp
  unfold keptL
  rw [hk, if_pos (.inr (by omega))]
  have hx : f.b.extract 0 f.b.size = f.b := by apply ByteArray.ext; simp
  rw [hx, ← h]
theorem kept_tmp {b : ByteArray} {s : Int} (hb : b.size ≤ 50) (h1 : -1 ≤ s) (h2 : s ≤ b.size) (k : Option Int) : TOk (keptL ⟨tmpN, b, s⟩ k) := by
  have hk := keptN_le ⟨tmpN, b, s⟩ ⟨h1, h2⟩ k
  unfold keptL
  split
  · refine .inr ⟨_, _, rfl, ?_, by omega, ?_⟩
    · have hk' : keptN ⟨tmpN, b, s⟩ k ≤ b.size := hk
      rw [ByteArray.size_extract]; omega
    · have hk' : keptN ⟨tmpN, b, s⟩ k ≤ b.size := hk
      rw [ByteArray.size_extract]
      have : min (keptN ⟨tmpN, b, s⟩ k) b.size - 0 = keptN ⟨tmpN, b, s⟩ k := by omega
      rw [this]
      exact Int.le_refl _
  · exact .inl rfl
theorem TOk.name {T : List FileD} (h : TOk T) : ∀ f ∈ T, f.name = tmpN := by
  rcases h with rfl | ⟨b, s, rfl, -⟩
  · intro f hf; cases hf
  · intro f hf; rw [List.mem_singleton.1 hf]
/-- ON -/
theorem on_has {L T F : List FileD} {q n l : Int} (ks : List Int) (hT : TOk T) (hF : ∀ f ∈ F, Sure f ∧ f.name ≠ tmpN) (h : Has L (T ++ F)) :
    ∃ L' T', (⟨L, q, n, l, true⟩ : DiskD).on ks = ⟨L', q, n, -1, false⟩ ∧ TOk T' ∧ Has L' (T' ++ F) := by
  have hs := onGo_sorted h.1 ks
  have hndF : F.Nodup := (List.nodup_append.1 h.2.1).2.1
  have hLi : ∀ i f, L[i]? = some f → f ∈ T ∨ f ∈ F := fun i f hi => List.mem_append.1 ((h.2.2 f).1 (List.mem_of_getElem? hi))
  have hFL : ∀ f ∈ F, ∃ i, L[i]? = some f := fun f hf => List.mem_iff_getElem?.1 ((h.2.2 f).2 (List.mem_append_right _ hf))
  have hon : (⟨L, q, n, l, true⟩ : DiskD).on ks = ⟨onGo L ks, q, n, -1, false⟩ := by unfold DiskD.on; rw [if_pos rfl]
  rcases hT with rfl | ⟨b, s, rfl, hb1, hb2, hb3⟩
  · refine ⟨onGo L ks, [], hon, .inl rfl, hs, hndF, fun g => ?_⟩
    rw [mem_onGo, List.nil_append]
    constructor
    · rintro ⟨i, f, hi, hg⟩
      have hf : f ∈ F := (hLi i f hi).resolve_left (by simp)
      rw [kept_sure (hF f hf).1, List.mem_singleton] at hg
      subst hg
      exact hf
    · intro hg
      obtain ⟨i, hi⟩ := hFL g hg
      exact ⟨i, g, hi, by rw [kept_sure (hF g hg).1]; simp⟩
  · obtain ⟨i0, hi0⟩ := List.mem_iff_getElem?.1 ((h.2.2 ⟨tmpN, b, s⟩).2 (by simp))
    have hT' := kept_tmp hb1 hb2 hb3 ks[i0]?
    refine ⟨onGo L ks, keptL ⟨tmpN, b, s⟩ ks[i0]?, hon, hT', hs, ?_, fun g => ?_⟩
    · refine List.nodup_append.2 ⟨?_, hndF, fun x hx y hy e => ?_⟩
      · rcases hT' with h1 | ⟨b', s', h1, _⟩ <;> rw [h1] <;> simp
      · subst e
        exact (hF x hy).2 (TOk.name hT' x hx)
    · rw [mem_onGo, List.mem_append]
      constructor
      · rintro ⟨i, f, hi, hg⟩
        rcases hLi i f hi with hf | hf
        · have hf := List.mem_singleton.1 hf
          subst hf
          have hii : i = i0 := by
            have e1 := findN_at h.1 (t := tmpN) (i := i) (by rw [List.getElem?_map, hi]; rfl)
            have e2 := findN_at h.1 (t := tmpN) (i := i0) (by rw [List.getElem?_map, hi0]; rfl)
            rw [e1] at e2
            injection e2
          subst hii
          exact .inl hg
        · rw [kept_sure (hF f hf).1, List.mem_singleton] at hg
          subst hg
          exact .inr hf
      · rintro (hg | hg)
        · exact ⟨i0, _, hi0, hg⟩
        · obtain ⟨i, hi⟩ := hFL g hg
          exact ⟨i, g, hi, by rw [kept_sure (hF g hg).1]; simp⟩
theorem fileM_sure (m : ManM) : Sure (fileM m) := by unfold Sure fileM; rw [m.bytes_size]; rfl
theorem fileM_tmp {m : ManM} (h : Good m) : (fileM m).name ≠ tmpN := nameM_tmp (by have := h.pos; omega)
end Go.Proofs.YtlcgkcafelpglaaGreatDoor
