/- The stage's law: wherever the power goes; its walk. -/
import Derived.Test.YtlcgkcafelpglaaGreatDoorMaKs
import Derived.Test.YtlcgkcafelpglaaGreatDoorPk42
import Derived.Deep.DeepCutAuto
import Derived.Laws.BitsLemmas
namespace Go.Proofs.YtlcgkcafelpglaaGreatDoor
open Go.RowKit Go.Maps

theorem man_struct3 : Tryz.prog.underlying 38 = some (.struct (Tryz.prog.fieldsOf 38)) := by kernel_rfl
theorem man_plain3 : Tryz.prog.stoodInHeld 38 = false := by kernel_rfl
set_option maxHeartbeats 2000000 in
theorem run_eql_ex (a b : ManM) : ∃ E : Bool, (∀ w : World, (binOp .eql 38 (.agg (mCells a)) (.agg (mCells b))).run Tryz.prog w = .ok (.bool E) w) ∧ (a = b → E = true) := by
  refine ⟨(a.n == b.n) && ((a.epoch == b.epoch) && ((a.step == b.step) && ((a.sum == b.sum) && ((a.most == b.most) && ((a.done == b.done) && ((a.job : Int) == (b.job : Int))))))), fun w => ?_, ?_⟩
  · rw [run_eql_struct, run_equalIn_agg _ _ _ _ _ man_struct3 man_plain3]
    unfold mCells
    simp [go_sem]
    rcases Decidable.em (a.n = b.n) with h1 | h1
    · rcases Decidable.em (a.epoch = b.epoch) with h2 | h2
      · rcases Decidable.em (a.step = b.step) with h3 | h3
        · rcases Decidable.em (a.sum = b.sum) with h4 | h4
          · rcases Decidable.em (a.most = b.most) with h5 | h5
            · cases a.done <;> cases b.done <;> rcases Decidable.em ((a.job : Int) = (b.job : Int)) with h6 | h6 <;> simp [h1, h2, h3, h4, h5, h6]
            · cases a.done <;> cases b.done <;> simp [h1, h2, h3, h4, h5]
          · cases a.done <;> cases b.done <;> simp [h1, h2, h3, h4]
        · cases a.done <;> cases b.done <;> simp [h1, h2, h3]
      · cases a.done <;> cases b.done <;> simp [h1, h2]
    · cases a.done <;> cases b.done <;> simp [h1]
  · rintro rfl
    simp
set_option maxHeartbeats 2000000 in
theorem run_neq_same (a : ManM) (w : World) : (binOp .neq 38 (.agg (mCells a)) (.agg (mCells a))).run Tryz.prog w = .ok (.bool false) w := by
  rw [run_neq_struct, run_equalIn_agg _ _ _ _ _ man_struct3 man_plain3]
  unfold mCells
  simp [go_sem]
theorem and_one (n : Int) : bits .and .i64 n 1 ≤ 9223372036854775807 := by
  have h1 : (BitVec.ofInt 64 1).toNat = 2 ^ 1 - 1 := by decide
  have key : (BitVec.ofInt 64 n &&& BitVec.ofInt 64 1).toNat = (n % ((2 ^ 64 : Nat) : Int)).toNat % 2 ^ 1 := by
    rw [BitVec.toNat_and, BitVec.toNat_ofInt, h1, Nat.and_two_pow_sub_one_eq_mod]
  show IntKind.i64.wrap ((BitVec.ofInt 64 n &&& BitVec.ofInt 64 1).toNat : Nat) ≤ _
  rw [key, IntKind.wrap_i64]
  omega
theorem Tb.on3 {w W : World} (h : Tb w.heap.size w) (hb : Below w.heap.size w W) : Tb W.heap.size W := fun w2 h2 => h w2 (hb.trans (h2.mono hb.size))
theorem CallAt.row {w : World} {b o : Nat} {c : CallM} (h : CallAt w b o c) : w.cell? ⟨b, o + 1, none⟩ = some (.int .i64 c.m.n) ∧ w.cell? ⟨b, o + 2, none⟩ = some (.int .i64 c.m.epoch) ∧ w.cell? ⟨b, o + 3, none⟩ = some (.int .i64 c.m.step) ∧ w.cell? ⟨b, o + 4, none⟩ = some (.int .i64 c.m.sum) ∧
    w.cell? ⟨b, o + 5, none⟩ = some (.int .i64 c.m.most) ∧ w.cell? ⟨b, o + 6, none⟩ = some (.bool c.m.done) ∧ w.cell? ⟨b, o + 7, none⟩ = some (.int .u32 c.m.job) :=
  ⟨h.m 0 (by decide), h.m 1 (by decide), h.m 2 (by decide), h.m 3 (by decide), h.m 4 (by decide), h.m 5 (by decide), h.m 6 (by decide)⟩
theorem Moved.setRow_ (w : World) (g : Nat) (cs : Array Value) : Moved w (w.setRow g cs) g none := ⟨rfl, rfl, rfl, by simp [World.setRow], fun k _ hk _ => setRow_other w g k cs hk⟩
section
variable {w wr w2 : World} {p gs g : Nat} {v : Value} {n l : Int} {L G : List FileD} {S : StD} {off : Bool} {cs : Array Value}
theorem KD.moved (a : KD w wr p v L n l off S G) (hk : Blk wr g 38 cs) (hg : w.heap.size ≤ g) (hm : Moved wr w2 g none) : KD w w2 p v L n l off S G := by
  obtain ⟨rows, hr, hR⟩ := a.is.row
  have hty := own_type hR.1 (t := 38) (by decide)
  refine ⟨a.is.keep hm (fun e => by subst e; exact blk_type a.is.blk hk (by decide)) (by simp) (fun k hk' => ⟨fun e => by subst e; exact hty k hk' _ _ hk, by simp⟩) (fun _ _ hh => blk_type hk hh (by decide)) (by simp), a.below.trans (hm.below hg (by simp) a.below.size), a.ok, a.g, a.has, a.n0, a.l0, a.l1⟩
theorem StIs.moved (h : StIs wr gs p S) (hk : Blk wr g 38 cs) (hm : Moved wr w2 g none) : StIs w2 gs p S :=
  (hm.block gs (Blk.lt h) (fun e => by subst e; exact blk_type h hk (by decide)) (by simp)).trans h
theorem Blk.moved {t : TypeId} {ds : Array Value} {g' : Nat} (h : Blk wr g' t ds) (hm : Moved wr w2 g none) (hne : g' ≠ g) : Blk w2 g' t ds := (hm.block g' h.lt hne (by simp)).trans h
end
/-- what the step's answer says of the state that is found behind it -/
def Ans (f : Int) (S S1 S2 : StD) : Prop := (f = 0 ∧ S2 = S1) ∨ (f = 2 ∧ S2 = S) ∨ (f = 160 ∧ (S2 = S ∨ S2 = S1))
/-- behind Write -/
def KAft (w wx : World) (p gs : Nat) (n : Int) (S : StD) (m : ManM) (f : Int) : Prop :=
  ((nextM S m).may = true ∧ f = 0 ∧ ∃ L' n' l' v', KD w wx p v' L' n' l' false ⟨nextM S m, true⟩ [] ∧ StIs wx gs p ⟨nextM S m, true⟩ ∧ n' ≤ n + 5) ∨
  ((nextM S m).may = false ∧ f = 2 ∧ ∃ L' n' l' v', KD w wx p v' L' n' l' false S [] ∧ StIs wx gs p S ∧ n' ≤ n + 5) ∨
  ((nextM S m).may = true ∧ f = 160 ∧ ∃ S2 G L' n' v', (S2 = S ∨ S2 = ⟨nextM S m, true⟩) ∧ KD w wx p v' L' n' (-1) true S2 G ∧ n' ≤ n + 5)
/-- behind the power's return -/
def KBeh (w wx : World) (p : Nat) (n : Int) (S S1 : StD) (f : Int) (s6 s7 : Value) (S2 : StD) (gs : Nat) : Prop :=
  s6 = .pointer (some ⟨gs, 0, none⟩) ∧ s7 = .int .i64 0 ∧ Ans f S S1 S2 ∧ w.heap.size ≤ gs ∧ ∃ L' n' l' v', KD w wx p v' L' n' l' false S2 [] ∧ StIs wx gs p S2 ∧ n' ≤ n + 9
section
variable {w wx w2 : World} {p gs g : Nat} {n : Int} {S : StD} {m : ManM} {f : Int} {cs : Array Value}
theorem KAft.moved (h : KAft w wx p gs n S m f) (hk : Blk wx g 38 cs) (hg : w.heap.size ≤ g) (hm : Moved wx w2 g none) : KAft w w2 p gs n S m f := by
  rcases h with ⟨a1, a2, L', n', l', v', a3, a4, a5⟩ | ⟨a1, a2, L', n', l', v', a3, a4, a5⟩ | ⟨a1, a2, S2, G, L', n', v', a3, a4, a5⟩
  · exact .inl ⟨a1, a2, L', n', l', v', a3.moved hk hg hm, a4.moved hk hm, a5⟩
  · exact .inr (.inl ⟨a1, a2, L', n', l', v', a3.moved hk hg hm, a4.moved hk hm, a5⟩)
  · exact .inr (.inr ⟨a1, a2, S2, G, L', n', v', a3, a4.moved hk hg hm, a5⟩)
theorem KAft.below_ (h : KAft w wx p gs n S m f) (hb : Below wx.heap.size wx w2) : KAft w w2 p gs n S m f := by
  rcases h with ⟨a1, a2, L', n', l', v', a3, a4, a5⟩ | ⟨a1, a2, L', n', l', v', a3, a4, a5⟩ | ⟨a1, a2, S2, G, L', n', v', a3, a4, a5⟩
  · exact .inl ⟨a1, a2, L', n', l', v', a3.below_ hb, a4.below hb, a5⟩
  · exact .inr (.inl ⟨a1, a2, L', n', l', v', a3.below_ hb, a4.below hb, a5⟩)
  · exact .inr (.inr ⟨a1, a2, S2, G, L', n', v', a3, a4.below_ hb, a5⟩)
end
set_option maxRecDepth 100000 in
set_option maxHeartbeats 16000000 in
theorem keeps_any (w0 : World) (A : Option Addr) (c : Nat) (l : List CallM) (hA0 : CallsA w0 A l) (A2 : Option Addr) (c2 : Nat) (il : List Int) (hI0 : Rd w0 1 A2 il.length (il.map (Value.int .i64))) (hib : ∀ z ∈ il, In64 z) (hT0 : Tb w0.heap.size w0) :
    Calls Tryz.prog 27 #[.slice A l.length c, .slice A2 il.length c2] w0 fun e w' => e = .returned (.bool true) ∧ Below w0.heap.size w0 w' := by
  have HL := Lib.hid (large_any w0 A c l hA0)
  have HA0 := Lib.hid hA0; have HI0 := Lib.hid hI0; have HT0 := Lib.hid hT0; have HIB := Lib.hid hib
  clear hA0 hI0 hT0 hib
  go_enter Tryz.func27, Tryz.ntmps27
  go_wp2_with fail
  refine HL.out.mono ?_
  intro e w hP
  obtain ⟨b, rfl, hb0, hsm⟩ := hP
  have hwk : ∀ W, Below w.heap.size w W → Calls Tryz.prog 6 #[] W fun e w' => e = .returned (.bool true) ∧ Below W.heap.size W w' := fun W hW => works_any W (HT0.out.on3 (hb0.trans (hW.mono hb0.size)))
  have hT : Tb w.heap.size w := HT0.out.on3 hb0
  have HWK := Lib.hid hwk; have HB0 := Lib.hid hb0; have HA := Lib.hid (HA0.out.below hb0); have HI := Lib.hid (HI0.out.below hb0); have HT := Lib.hid hT
  clear hwk hb0 hT HL HA0 HI0 HT0
  cases b with
  | true =>
    clear hsm
    go_wp2_with fail
    refine (HWK.out _ (Below.refl _ _)).mono ?_
    rintro e w5 ⟨rfl, hb5⟩
    have HB5 := Lib.hid (HB0.out.trans (hb5.mono HB0.out.size))
    clear hb5
    go_wp2
    go_ret
    exact ⟨rfl, HB5.out⟩
  | false =>
  obtain ⟨hl60, hsz⟩ := hsm rfl
  have HSZ := Lib.hid hsz
  clear hsm hsz
  by_cases hil : il.length ≤ 100
  case neg =>
    have hilI : (100 : Int) < (il.length : Int) := by omega
    have hilb : decide ((100 : Int) < (il.length : Int)) = true := decide_eq_true hilI
    go_wp2_with fail
    refine (HWK.out _ (Below.refl _ _)).mono ?_
    rintro e w5 ⟨rfl, hb5⟩
    have HB5 := Lib.hid (HB0.out.trans (hb5.mono HB0.out.size))
    clear hb5
    go_wp2
    go_ret
    exact ⟨rfl, HB5.out⟩
  have hilI : ¬ (100 : Int) < (il.length : Int) := by omega
  have hilb : decide ((100 : Int) < (il.length : Int)) = false := decide_eq_false hilI
  go_wp2_with fail
  refine (new_any 1048576 _).mono ?_
  rintro e w1 ⟨rfl, hd1, hb1⟩
  clear hilb hilI
  have hc := open_c (G := []) (S := ⟨zeroM, false⟩) (L := []) (X := []) (q := 1048576) (n := 0) hd1 (HT.out.on hb1) oth_nil zeroS_ok hb1.size (fitN_of (by decide) (by decide) (by decide) (by decide)) (.inl (.inl rfl)) has_nil
  have HC := Lib.hid hc; have HB1 := Lib.hid hb1
  clear hc hd1 hb1
  go_wp2_with fail
  refine HC.out.mono ?_
  rintro e w4 ⟨gs0, L4, n4, v4, rfl, ho, hst, hgs, hh, hn1, hn2⟩
  have h0 : KD w w4 w.heap.size v4 L4 n4 (-1) false ⟨zeroM, false⟩ [] := ⟨ho.is, HB1.out.trans (ho.below.mono (Nat.le_refl _)), zeroS_ok, .inl (.inl rfl), hh, by omega, by decide, by decide⟩
  have hg0 : w.heap.size ≤ gs0 := Nat.le_trans HB1.out.size hgs
  have hk4 := Blk.new w4 38 #[.int .i64 0, .int .i64 0, .int .i64 0, .int .i64 0, .int .i64 0, .bool false, .int .u32 0]
  have hk5 := hk4.setRow #[.int .i64 0, .int .i64 0, .int .i64 0, .int .i64 0, .int .i64 0, .bool false, .int .u32 0]
  have hone := mCells_oneA zeroM
  rw [show mCells zeroM = #[.int .i64 0, .int .i64 0, .int .i64 0, .int .i64 0, .int .i64 0, .bool false, .int .u32 0] from rfl] at hone
  have hb5 := below_row ((Below.refl w4.heap.size w4).alloc (Nat.le_refl _) (.cells #[.int .i64 0, .int .i64 0, .int .i64 0, .int .i64 0, .int .i64 0, .bool false, .int .u32 0] 38)) (Nat.le_refl _) #[.int .i64 0, .int .i64 0, .int .i64 0, .int .i64 0, .int .i64 0, .bool false, .int .u32 0]
  have hgl : w.heap.size ≤ w4.heap.size := h0.below.size
  have HK4 := Lib.hid hk4; have HK5 := Lib.hid hk5; have HONE := Lib.hid hone; have H0 := Lib.hid (h0.below_ hb5); have HS0 := Lib.hid (hst.below hb5); have HG0 := Lib.hid hg0; have HGL := Lib.hid hgl
  clear h0 ho hst hgs hh HC HB1 hk4 hk5 hone hb5 hg0 hgl
  go_upto_region 6 with (first | (refine wpList_store_row rfl 38 (.tmp 8) (.tmp 38) rfl w4.heap.size #[.int .i64 0, .int .i64 0, .int .i64 0, .int .i64 0, .int .i64 0, .bool false, .int .u32 0] rfl rfl 38 _ HK4.out infoMf rfl HONE.out ?_))
  obtain ⟨w5, hw5⟩ : ∃ w5, (w4.alloc (.cells #[.int .i64 0, .int .i64 0, .int .i64 0, .int .i64 0, .int .i64 0, .bool false, .int .u32 0] 38)).setRow w4.heap.size #[.int .i64 0, .int .i64 0, .int .i64 0, .int .i64 0, .int .i64 0, .bool false, .int .u32 0] = w5 := ⟨_, rfl⟩
  obtain ⟨gl, hgl⟩ : ∃ gl, w4.heap.size = gl := ⟨_, rfl⟩
  rw [hw5] at HK5 H0 HS0 ⊢
  rw [hgl] at HK5 HGL ⊢
  have HKL := Lib.hid (show Blk w5 gl 38 (mCells zeroM) from HK5.out)
  clear hw5 hgl HK4 HK5 HONE
  go_wp2
  go_loopg [6, 7, 9, 10, 11] l.length (fun gf vs ve vo vt vi wr => ∃ (i : Nat) (L : List FileD) (n d : Int) (v : Value) (S : StD) (gs : Nat) (so : Bool), vs = .pointer (some ⟨gs, 0, none⟩) ∧ ve = .int .i64 0 ∧ vo = .bool so ∧ so = S.some ∧ vt = .int .i64 i ∧ vi = .int .i64 i ∧ i + gf = l.length ∧ n ≤ 1 + 12 * i ∧ KD w wr w.heap.size v L n d false S [] ∧ StIs wr gs w.heap.size S ∧ w.heap.size ≤ gs ∧ Blk wr gl 38 (mCells S.m))
  case atStart => exact ⟨0, L4, n4, -1, v4, ⟨zeroM, false⟩, gs0, false, rfl, rfl, rfl, rfl, rfl, rfl, by omega, by omega, H0.out, HS0.out, HG0.out, HKL.out⟩
  case round =>
    clear H0 HS0 HG0 HKL
    obtain ⟨i, L, n, d, v, S, gs, so, rfl, rfl, rfl, hso, rfl, rfl, hi, hn, hkd, hst, hgs, hkl⟩ := hrel
    cases gk with
    | zero =>
      obtain rfl : i = l.length := by omega
      have HW := Lib.hid (HWK.out _ hkd.below); have HB := Lib.hid hkd.below
      clear hkd hst hgs hkl hn hi hso
      go_wp2_with fail
      refine HW.out.mono ?_
      rintro e w6 ⟨rfl, hb5⟩
      have HB5 := Lib.hid (HB0.out.trans ((HB.out.trans (hb5.mono HB.out.size)).mono HB0.out.size))
      clear hb5
      go_wp2
      go_ret
      exact ⟨rfl, HB5.out⟩
    | succ gf =>
      obtain ⟨x, hx⟩ : ∃ x, l[i]? = some x := ⟨_, List.getElem?_eq_getElem (by omega)⟩
      obtain ⟨bb, oo, rfl, hlt, hcl⟩ := HA.out (by omega)
      have hcx := hcl i x hx
      have hsx := HSZ.out x (List.mem_of_getElem? hx)
      have hksz : x.keep.length ≤ 5000 := hsx.2.2
      have hiI : (i : Int) < (l.length : Int) := by omega
      have hS := hkd.ok.nn
      obtain ⟨hS0, hS1⟩ := hS
      have hil2 : i ≤ 60 := by omega
      have HKD := Lib.hid hkd; have HST := Lib.hid hst; have HGS := Lib.hid hgs; have HKL := Lib.hid hkl; have HCX := Lib.hid hcx; have HLT := Lib.hid hlt; have HSO := Lib.hid hso
      clear hso hkd hst hgs hkl hcx hcl hlt hx hsx
      go_upto_if 50 with (fail)
      go_cut [7] (fun s7 wx => s7 = .int .i64 0 ∧ ∃ (d' : Int) (v' : Value), KD w wx w.heap.size v' L n d' false S [] ∧ StIs wx gs w.heap.size S ∧ Blk wx gl 38 (mCells S.m))
      case first =>
        by_cases hii : i < il.length
        · have hiiI : (i : Int) < (il.length : Int) := by omega
          have hiib : decide ((i : Int) < (il.length : Int)) = true := decide_eq_true hiiI
          obtain ⟨ad, u, rfl, hu, hcu⟩ := (HI.out.below HKD.out.below).at_ hii
          rw [List.getElem?_map, List.getElem?_eq_getElem hii, Option.map_some] at hu
          injection hu with hu
          obtain ⟨z, hz⟩ : ∃ z, il[i] = z := ⟨_, rfl⟩
          rw [hz] at hu
          subst hu
          have hzb : z ≤ 9223372036854775807 := by rw [← hz]; exact (HIB.out _ (List.getElem_mem hii)).2
          have HF := Lib.hid (k_fail HKD.out z hzb)
          clear hz
          go_wp2_with fail
          refine HF.out.mono ?_
          rintro e w6 ⟨rfl, v6, h6, k6, s6⟩
          have H6 := Lib.hid h6; have HS6 := Lib.hid (s6 _ _ HST.out); have HL6 := Lib.hid (k6 _ _ HKL.out)
          clear h6 k6 s6 HF
          go_wp2
          go_meet
          exact ⟨rfl, _, v6, H6.out, HS6.out, HL6.out⟩
        · have hiiI : ¬ (i : Int) < (il.length : Int) := by omega
          have hiib : decide ((i : Int) < (il.length : Int)) = false := decide_eq_false hiiI
          go_wp2
          go_meet
          exact ⟨rfl, d, v, HKD.out, HST.out, HKL.out⟩
      case rest =>
      as_aux_lemma =>
      clear HKD HST HKL
      obtain ⟨rfl, d1, v1, hkd, hst, hkl⟩ := hcut
      have hrow := (HCX.out.below HLT.out hkd.below).row
      obtain ⟨m, hm⟩ : ∃ m, x.m = m := ⟨_, rfl⟩
      have hok : m.Ok := by rw [← hm]; exact HCX.out.ok
      rw [hm] at hrow
      obtain ⟨c0, c1, c2_, c3, c4, c5, c6⟩ := hrow
      have hk8 := Blk.new wc 38 #[.int .i64 0, .int .i64 0, .int .i64 0, .int .i64 0, .int .i64 0, .bool false, .int .u32 0]
      have hone := mCells_oneA m
      rw [show mCells m = #[.int .i64 m.n, .int .i64 m.epoch, .int .i64 m.step, .int .i64 m.sum, .int .i64 m.most, .bool m.done, .int .u32 m.job] from rfl] at hone
      have hk9 := hk8.setRow #[.int .i64 m.n, .int .i64 m.epoch, .int .i64 m.step, .int .i64 m.sum, .int .i64 m.most, .bool m.done, .int .u32 m.job]
      have hb8 := below_row ((Below.refl wc.heap.size wc).alloc (Nat.le_refl _) (.cells #[.int .i64 0, .int .i64 0, .int .i64 0, .int .i64 0, .int .i64 0, .bool false, .int .u32 0] 38)) (Nat.le_refl _) #[.int .i64 m.n, .int .i64 m.epoch, .int .i64 m.step, .int .i64 m.sum, .int .i64 m.most, .bool m.done, .int .u32 m.job]
      have hgx : w.heap.size ≤ wc.heap.size := hkd.below.size
      have hgne : gl ≠ wc.heap.size := fun e => by have := Blk.lt hkl; omega
      have HK8 := Lib.hid hk8; have HONE := Lib.hid hone; have HKX := Lib.hid hk9; have HKD := Lib.hid (hkd.below_ hb8); have HST := Lib.hid (hst.below hb8); have HKL := Lib.hid (hkl.below hb8 hkl.lt); have HOK := Lib.hid hok; have HGX := Lib.hid hgx; have HGN := Lib.hid hgne
      clear hk8 hone hk9 hb8 hkd hst hkl hok hm hgx hgne
      go_upto_region 16 with (first | (refine wpList_store_row rfl 38 (.tmp 12) (.tmp 63) rfl wc.heap.size #[.int .i64 m.n, .int .i64 m.epoch, .int .i64 m.step, .int .i64 m.sum, .int .i64 m.most, .bool m.done, .int .u32 m.job] rfl rfl 38 _ HK8.out infoMf rfl HONE.out ?_))
      obtain ⟨w8, hw8⟩ : ∃ w8, (wc.alloc (.cells #[.int .i64 0, .int .i64 0, .int .i64 0, .int .i64 0, .int .i64 0, .bool false, .int .u32 0] 38)).setRow wc.heap.size #[.int .i64 m.n, .int .i64 m.epoch, .int .i64 m.step, .int .i64 m.sum, .int .i64 m.most, .bool m.done, .int .u32 m.job] = w8 := ⟨_, rfl⟩
      obtain ⟨gx, hgx⟩ : ∃ gx, wc.heap.size = gx := ⟨_, rfl⟩
      rw [hw8] at HKX HKD HST HKL ⊢
      rw [hgx] at HKX HGX HGN ⊢
      clear hw8 hgx HK8 HONE c0 c1 c2_ c3 c4 c5 c6
      dsimp only [Act.put]
      go_cut [13] (fun s13 wx => ∃ f : Int, s13 = .int .i64 f ∧ KAft w wx w.heap.size gs n S m f ∧ Blk wx gx 38 (mCells m) ∧ Blk wx gl 38 (mCells S.m))
      case first =>
        as_aux_lemma =>
        have hkx := HKX.out
        have y0 := hkx.cell 0; have y1 := hkx.cell 1; have y2 := hkx.cell 2; have y3 := hkx.cell 3; have y4 := hkx.cell 4; have y5 := hkx.cell 5; have y6 := hkx.cell 6
        simp only [List.getElem?_toArray, List.getElem?_cons_zero, List.getElem?_cons_succ] at  y0 y1 y2 y3 y4 y5 y6
        clear hkx
        cases hy : (nextM S m).may with
        | true =>
          have hw := k_write HKD.out (by omega) HT.out HST.out HGS.out HOK.out hy
          rw [show mCells m = #[.int .i64 m.n, .int .i64 m.epoch, .int .i64 m.step, .int .i64 m.sum, .int .i64 m.most, .bool m.done, .int .u32 m.job] from rfl] at hw
          have HW := Lib.hid hw; have HY := Lib.hid hy
          clear hw hy
          go_wp2_with fail
          refine HW.out.mono ?_
          intro e w9 hP
          rcases hP with ⟨L9, n9, l9, v9, rfl, h9, s9, hn9, k9⟩ | ⟨S9, G9, L9, n9, v9, rfl, hS9, h9, hn9, k9⟩
          · have HR := Lib.hid (show KAft w w9 w.heap.size gs n S m 0 ∧ Blk w9 gx 38 (mCells m) ∧ Blk w9 gl 38 (mCells S.m) from ⟨.inl ⟨HY.out, rfl, L9, n9, l9, v9, h9, s9, hn9⟩, k9 _ _ HKX.out, k9 _ _ HKL.out⟩)
            clear h9 s9 k9 HW y0 y1 y2 y3 y4 y5 y6
            go_wp2
            go_meet
            exact ⟨0, rfl, HR.out⟩
          · have HR := Lib.hid (show KAft w w9 w.heap.size gs n S m 160 ∧ Blk w9 gx 38 (mCells m) ∧ Blk w9 gl 38 (mCells S.m) from ⟨.inr (.inr ⟨HY.out, rfl, S9, G9, L9, n9, v9, hS9, h9, hn9⟩), k9 _ _ HKX.out, k9 _ _ HKL.out⟩)
            clear h9 k9 hS9 HW y0 y1 y2 y3 y4 y5 y6
            go_wp2
            go_meet
            exact ⟨160, rfl, HR.out⟩
        | false =>
          have hw := k_write_no HKD.out (by omega) HT.out HST.out HGS.out HOK.out hy
          rw [show mCells m = #[.int .i64 m.n, .int .i64 m.epoch, .int .i64 m.step, .int .i64 m.sum, .int .i64 m.most, .bool m.done, .int .u32 m.job] from rfl] at hw
          have HW := Lib.hid hw; have HY := Lib.hid hy
          clear hw hy
          go_wp2_with fail
          refine HW.out.mono ?_
          rintro e w9 ⟨rfl, v9, h9, s9, k9⟩
          have HR := Lib.hid (show KAft w w9 w.heap.size gs n S m 2 ∧ Blk w9 gx 38 (mCells m) ∧ Blk w9 gl 38 (mCells S.m) from ⟨.inr (.inl ⟨HY.out, rfl, L, n, d1, v9, h9, s9, by omega⟩), k9 _ _ HKX.out, k9 _ _ HKL.out⟩)
          clear h9 s9 k9 HW y0 y1 y2 y3 y4 y5 y6
          go_wp2
          go_meet
          exact ⟨2, rfl, HR.out⟩
      case rest =>
      as_aux_lemma =>
      clear HKD HST HKL HKX
      obtain ⟨f, rfl, hka, hkx, hkl⟩ := hcut
      have y0 := hkl.cell 0; have x0 := hkx.cell 0; have f0 := hkx.frozen 0
      simp only [mCells, List.getElem?_toArray, List.getElem?_cons_zero] at y0 x0
      have hm9 := Moved.set_ wc gx 0 none (.int .i64 (S.m.n + 1))
      have hkx9 : Blk (wc.setCell ⟨gx, 0, none⟩ (.int .i64 (S.m.n + 1))) gx 38 (mCells (nextM S m)) := hkx.set_ 0 (.int .i64 (S.m.n + 1))
      have hkl9 := hkl.moved hm9 HGN.out
      have hka9 := hka.moved hkx HGX.out hm9
      obtain ⟨w9, hw9⟩ : ∃ w9, wc.setCell ⟨gx, 0, none⟩ (.int .i64 (S.m.n + 1)) = w9 := ⟨_, rfl⟩
      rw [hw9] at hkx9 hkl9 hka9
      have HKX := Lib.hid hkx9; have HKL := Lib.hid hkl9; have HKA := Lib.hid hka9; have HW9 := Lib.hid hw9
      clear hkx9 hkl9 hka9 hm9 hw9 hka hkx hkl
      go_upto_region 18 with (fail)
      rw [HW9.out]
      clear x0 f0 y0 HW9
      go_cut [85] (fun s85 wx => s85 = .bool false ∧ KAft w wx w.heap.size gs n S m f ∧ Blk wx gx 38 (mCells (nextM S m)) ∧ Blk wx gl 38 (mCells S.m))
      case first =>
        rcases HKA.out with ⟨-, rfl, -⟩ | ⟨hy, rfl, -⟩ | ⟨-, rfl, -⟩
        · go_wp2
          go_meet
          exact ⟨rfl, HKA.out, HKX.out, HKL.out⟩
        · have hkx := HKX.out
          unfold mCells at hkx
          have y0 := hkx.cell 0; have y1 := hkx.cell 1; have y2 := hkx.cell 2; have y3 := hkx.cell 3; have y4 := hkx.cell 4; have y5 := hkx.cell 5; have y6 := hkx.cell 6
          simp only [List.getElem?_toArray, List.getElem?_cons_zero, List.getElem?_cons_succ] at  y0 y1 y2 y3 y4 y5 y6
          have hpl := plain_any (nextM S m)
          have hmy := rfMay_any (nextM S m)
          rw [hy] at hmy
          unfold mCells at hpl hmy
          have HPL := Lib.hid hpl; have HMY := Lib.hid hmy
          clear hpl hmy hkx hy
          go_wp2_with fail
          refine (HPL.out _).mono ?_
          rintro e w10 ⟨rfl, hb10⟩
          have HB10 := Lib.hid hb10
          clear hb10 y0 y1 y2 y3 y4 y5 y6 HPL
          go_wp2_with fail
          refine (HMY.out _).mono ?_
          rintro e w11 ⟨rfl, hb11⟩
          have hb911 := HB10.out.trans (hb11.mono HB10.out.size)
          have HR := Lib.hid (show KAft w w11 w.heap.size gs n S m 2 ∧ Blk w11 gx 38 (mCells (nextM S m)) ∧ Blk w11 gl 38 (mCells S.m) from ⟨HKA.out.below_ hb911, HKX.out.below hb911 HKX.out.lt, HKL.out.below hb911 HKL.out.lt⟩)
          clear hb911 hb11 HB10 HMY
          go_wp2
          go_meet
          exact ⟨rfl, HR.out⟩
        · go_wp2
          go_meet
          exact ⟨rfl, HKA.out, HKX.out, HKL.out⟩
      case rest =>
      as_aux_lemma =>
      clear HKA HKX HKL
      obtain ⟨rfl, hka, hkx, hkl⟩ := hcut
      have HKA := Lib.hid hka; have HKX := Lib.hid hkx; have HKL := Lib.hid hkl
      clear hka hkx hkl
      go_upto_region 20 with (fail)
      go_cut [87] (fun s87 wx => s87 = .bool (decide (f = 160)) ∧ wc = wx)
      case first =>
        have hof : ∀ (v : Value) (L : List FileD) (n l : Int) (o : Bool) (S : StD) (G : List FileD), KD w wc w.heap.size v L n l o S G → Calls Tryz.prog 29 #[.pointer (some ⟨w.heap.size, 0, none⟩)] wc fun e w' => e = .returned (.bool o) ∧ wc = w' := fun v L n l o S G h => (off_any wc _ _ v _ h.is).mono fun _ _ ⟨h1, h2⟩ => ⟨h1, h2.symm⟩
        have hof2 : Calls Tryz.prog 29 #[.pointer (some ⟨w.heap.size, 0, none⟩)] wc fun e w' => e = .returned (.bool (decide (f = 160))) ∧ wc = w' := by
          rcases HKA.out with ⟨-, rfl, L9, n9, l9, v9, h9, -⟩ | ⟨-, rfl, L9, n9, l9, v9, h9, -⟩ | ⟨-, rfl, S9, G9, L9, n9, v9, -, h9, -⟩
          · exact hof _ _ _ _ _ _ _ h9
          · exact hof _ _ _ _ _ _ _ h9
          · exact hof _ _ _ _ _ _ _ h9
        obtain ⟨fb, hfb⟩ : ∃ fb, decide (f = 160) = fb := ⟨_, rfl⟩
        rw [hfb] at hof2
        have HOF := Lib.hid hof2; have HFB := Lib.hid hfb
        clear hof hof2 hfb
        go_wp2_with fail
        refine HOF.out.mono ?_
        rintro e w9 ⟨rfl, rfl⟩
        go_wp2
        go_meet
        exact ⟨by rw [HFB.out], rfl⟩
      case rest =>
      as_aux_lemma =>
      obtain ⟨rfl, rfl⟩ := hcut
      go_upto_if 87 with (fail)
      go_cut [6, 7] (fun s6 s7 wx => ∃ (S2 : StD) (gs2 : Nat), KBeh w wx w.heap.size n S ⟨nextM S m, true⟩ f s6 s7 S2 gs2 ∧ Blk wx gx 38 (mCells (nextM S m)) ∧ Blk wx gl 38 (mCells S.m))
      case first =>
        as_aux_lemma =>
        rcases HKA.out with ⟨-, rfl, L9, n9, l9, v9, h9, s9, hn9⟩ | ⟨-, rfl, L9, n9, l9, v9, h9, s9, hn9⟩ | ⟨-, rfl, S9, G9, L9, n9, v9, hS9, h9, hn9⟩
        · have HR := Lib.hid (show KBeh w wc w.heap.size n S ⟨nextM S m, true⟩ 0 (.pointer (some ⟨gs, 0, none⟩)) (.int .i64 0) _ gs from ⟨rfl, rfl, .inl ⟨rfl, rfl⟩, HGS.out, L9, n9, l9, v9, h9, s9, by omega⟩)
          clear h9 s9
          go_wp2
          go_meet
          exact ⟨_, gs, HR.out, HKX.out, HKL.out⟩
        · have HR := Lib.hid (show KBeh w wc w.heap.size n S ⟨nextM S m, true⟩ 2 (.pointer (some ⟨gs, 0, none⟩)) (.int .i64 0) _ gs from ⟨rfl, rfl, .inr (.inl ⟨rfl, rfl⟩), HGS.out, L9, n9, l9, v9, h9, s9, by omega⟩)
          clear h9 s9
          go_wp2
          go_meet
          exact ⟨_, gs, HR.out, HKX.out, HKL.out⟩
        · obtain ⟨A5, cc5, hkc, hkr⟩ := (HCX.out.below HLT.out h9.below).keep
          obtain ⟨A6, cc6, hkc2, hkr2⟩ := HCX.out.keep
          have he56 : A5 = A6 ∧ cc5 = cc6 := by
            have h1 := (h9.below.cell (p := ⟨bb, oo + i * 12 + 11, none⟩) HLT.out).trans hkc2
            rw [hkc] at h1
            injection h1 with h1
            injection h1 with h1 _ h2
            exact ⟨h1, h2⟩
          obtain ⟨rfl, rfl⟩ := he56
          have hnp : 0 < x.keep.length → ∀ ad, A5 = some ad → ad.block ≠ w.heap.size := fun h0 ad e h => by
            subst e
            obtain ⟨_, e, hb', _⟩ := hkr2.2 h0
            injection e with e
            subst e
            omega
          obtain ⟨K, hK⟩ : ∃ K, x.keep = K := ⟨_, rfl⟩
          have hKb : ∀ z ∈ K, In64 z := by rw [← hK]; exact HCX.out.keepb
          rw [hK] at hkc hkr hkr2 hksz hnp
          have H9 := Lib.hid h9; have HSS := Lib.hid hS9; have HKR := Lib.hid hkr2; have HNP := Lib.hid hnp; have HKB := Lib.hid hKb
          clear h9 hS9 hkr hkr2 hkc2 hnp hK hKb
          go_wp2
          clear hkc
          go_loopg [15] (min K.length 3) (fun gf vt wr => ∃ (t : Nat) (L : List FileD) (G : List FileD) (n' : Int) (v : Value), vt = .int .i64 t ∧ t + gf = min K.length 3 ∧ n' ≤ n + 5 + t ∧ KD w wr w.heap.size v L n' (-1) true S9 G ∧ Blk wr gx 38 (mCells (nextM S m)) ∧ Blk wr gl 38 (mCells S.m))
          case atStart => exact ⟨0, L9, G9, n9, v9, rfl, by omega, by omega, H9.out, HKX.out, HKL.out⟩
          case round =>
            clear H9 HKX HKL HKA
            obtain ⟨t, L, G, n', v, rfl, ht, hn', hkd, hkx, hkl⟩ := hrel
            cases gk with
            | zero =>
              have ht33 : t ≤ 3 := by omega
              have hon := k_on hkd (by omega) (HKR.out.below hkd.below) HNP.out (by omega) (c := cc5)
              have HON := Lib.hid hon; have HKX := Lib.hid hkx; have HKL := Lib.hid hkl
              clear hon hkx hkl hkd
              by_cases htk : t < K.length
              all_goals
                first
                | (have htkI : (t : Int) < (K.length : Int) := by omega
                   have htkb : decide ((t : Int) < (K.length : Int)) = true := decide_eq_true htkI
                   have ht3 : ¬ (t : Int) < 3 := by omega
                   have ht3b : decide ((t : Int) < 3) = false := decide_eq_false ht3)
                | (have htkI : ¬ (t : Int) < (K.length : Int) := by omega
                   have htkb : decide ((t : Int) < (K.length : Int)) = false := decide_eq_false htkI)
                clear ht
                go_wp2_with fail
                refine HON.out.mono ?_
                rintro e w10 ⟨rfl, L10, G10, v10, h10, k10, -⟩
                have HOP := Lib.hid (k_open h10 (by omega) HT.out); have HKX10 := Lib.hid (k10 _ _ HKX.out); have HKL10 := Lib.hid (k10 _ _ HKL.out)
                clear h10 k10 HON
                go_wp2_with fail
                refine HOP.out.mono ?_
                intro e w11 hP
                rcases hP with ⟨g11, L11, n11, l11, v11, rfl, h11, s11, hg11, hn11, k11, -⟩ | ⟨v11, hno, -⟩
                · have HR := Lib.hid (show KBeh w w11 w.heap.size n S ⟨nextM S m, true⟩ 160 (.pointer (some ⟨g11, 0, none⟩)) (.int .i64 0) S9 g11 from ⟨rfl, rfl, .inr (.inr ⟨rfl, HSS.out⟩), hg11, L11, n11, l11, v11, h11, s11, by omega⟩)
                  have HKX11 := Lib.hid (k11 _ _ HKX10.out); have HKL11 := Lib.hid (k11 _ _ HKL10.out)
                  clear h11 s11 hg11 k11 HOP
                  go_wp2
                  go_meet
                  exact ⟨S9, g11, HR.out, HKX11.out, HKL11.out⟩
                · exact absurd rfl hno
            | succ gf =>
              have htk : t < K.length := by omega
              have htkI : (t : Int) < (K.length : Int) := by omega
              have htkb : decide ((t : Int) < (K.length : Int)) = true := decide_eq_true htkI
              have ht3 : (t : Int) < 3 := by omega
              have ht3b : decide ((t : Int) < 3) = true := decide_eq_true ht3
              have hon := k_on hkd (by omega) (HKR.out.below hkd.below) HNP.out (by omega) (c := cc5)
              have HON := Lib.hid hon; have HKX := Lib.hid hkx; have HKL := Lib.hid hkl
              clear hon hkx hkl hkd
              go_wp2_with fail
              refine HON.out.mono ?_
              rintro e w10 ⟨rfl, L10, G10, v10, h10, k10, -⟩
              obtain ⟨ad, u, rfl, hu, hcu⟩ := (HKR.out.below h10.below).at_ htk
              rw [List.getElem?_map, List.getElem?_eq_getElem htk, Option.map_some] at hu
              injection hu with hu
              obtain ⟨z, hz⟩ : ∃ z, K[t] = z := ⟨_, rfl⟩
              rw [hz] at hu
              subst hu
              have H10 := Lib.hid h10; have HKX10 := Lib.hid (k10 _ _ HKX.out); have HKL10 := Lib.hid (k10 _ _ HKL.out)
              clear h10 k10 HON hz
              go_wp2_with fail
              refine (k_fail H10.out _ ?_).mono ?_
              · exact and_one z
              rintro e w11 ⟨rfl, v11, h11, k11, -⟩
              have HOP := Lib.hid (k_open h11 (by omega) HT.out); have HKX11 := Lib.hid (k11 _ _ HKX10.out); have HKL11 := Lib.hid (k11 _ _ HKL10.out)
              clear h11 k11 hcu
              go_wp2_with fail
              refine HOP.out.mono ?_
              intro e w12 hP
              rcases hP with ⟨g12, L12, n12, l12, v12, rfl, h12, -, -, hn12, k12, -⟩ | ⟨v12, -, rfl, h12, k12, -⟩
              · have HCR := Lib.hid (k_crash h12); have HKX12 := Lib.hid (k12 _ _ HKX11.out); have HKL12 := Lib.hid (k12 _ _ HKL11.out)
                clear h12 k12 HOP
                go_wp2_with fail
                refine HCR.out.mono ?_
                rintro e w13 ⟨rfl, v13, h13, k13, -⟩
                have H13 := Lib.hid h13; have HKX13 := Lib.hid (k13 _ _ HKX12.out); have HKL13 := Lib.hid (k13 _ _ HKL12.out)
                clear h13 k13 HCR
                go_wp2
                go_roundg gf
                case measure => omega
                case rel => exact ⟨t + 1, L12, [], n12, v13, by go_num, by omega, by omega, H13.out, HKX13.out, HKL13.out⟩
              · have HCR := Lib.hid (k_crash h12); have HKX12 := Lib.hid (k12 _ _ HKX11.out); have HKL12 := Lib.hid (k12 _ _ HKL11.out)
                clear h12 k12 HOP
                go_wp2_with fail
                refine HCR.out.mono ?_
                rintro e w13 ⟨rfl, v13, h13, k13, -⟩
                have H13 := Lib.hid h13; have HKX13 := Lib.hid (k13 _ _ HKX12.out); have HKL13 := Lib.hid (k13 _ _ HKL12.out)
                clear h13 k13 HCR
                go_wp2
                go_roundg gf
                case measure => omega
                case rel => exact ⟨t + 1, L10, G10, n' + 1, v13, by go_num, by omega, by omega, H13.out, HKX13.out, HKL13.out⟩
      case rest =>
      as_aux_lemma =>
      clear HKA HKX HKL
      obtain ⟨S2, gs2, ⟨rfl, rfl, hans, hgs2, L2, n2, l2, v2, hkd, hst, hn2⟩, hkx, hkl⟩ := hcut
      have hnw := newest_any wc gs2 w.heap.size _ hst
      obtain ⟨s2, hs2⟩ : ∃ s2, S2.some = s2 := ⟨_, rfl⟩
      rw [show mCells S2.m = #[.int .i64 S2.m.n, .int .i64 S2.m.epoch, .int .i64 S2.m.step, .int .i64 S2.m.sum, .int .i64 S2.m.most, .bool S2.m.done, .int .u32 S2.m.job] from rfl, hs2] at hnw
      have HS2 := Lib.hid hs2
      clear hs2
      have hans2 := hans
      have HNW := Lib.hid hnw; have HKD := Lib.hid hkd; have HST := Lib.hid hst; have HKX := Lib.hid hkx; have HKL := Lib.hid hkl; have HANS := Lib.hid hans2; have HG2 := Lib.hid hgs2
      clear hnw hkd hst hkx hkl hans hans2 hgs2
      go_wp2_with fail
      refine HNW.out.mono ?_
      rintro e w10 ⟨rfl, hb10⟩
      have hk13 := Blk.new w10 38 #[.int .i64 0, .int .i64 0, .int .i64 0, .int .i64 0, .int .i64 0, .bool false, .int .u32 0]
      have hk14 := hk13.setRow #[.int .i64 S2.m.n, .int .i64 S2.m.epoch, .int .i64 S2.m.step, .int .i64 S2.m.sum, .int .i64 S2.m.most, .bool S2.m.done, .int .u32 S2.m.job]
      have hone := mCells_oneA S2.m
      rw [show mCells S2.m = #[.int .i64 S2.m.n, .int .i64 S2.m.epoch, .int .i64 S2.m.step, .int .i64 S2.m.sum, .int .i64 S2.m.most, .bool S2.m.done, .int .u32 S2.m.job] from rfl] at hone
      have hb1314 := below_row ((Below.refl w10.heap.size w10).alloc (Nat.le_refl _) (.cells #[.int .i64 0, .int .i64 0, .int .i64 0, .int .i64 0, .int .i64 0, .bool false, .int .u32 0] 38)) (Nat.le_refl _) #[.int .i64 S2.m.n, .int .i64 S2.m.epoch, .int .i64 S2.m.step, .int .i64 S2.m.sum, .int .i64 S2.m.most, .bool S2.m.done, .int .u32 S2.m.job]
      have hb11 := hb10.trans (hb1314.mono hb10.size)
      have HK13 := Lib.hid hk13; have HKM := Lib.hid hk14; have HONE := Lib.hid hone; have HKD11 := Lib.hid (HKD.out.below_ hb11); have HST11 := Lib.hid (HST.out.below hb11); have HKX11 := Lib.hid (HKX.out.below hb11 HKX.out.lt); have HKL11 := Lib.hid (HKL.out.below hb11 HKL.out.lt)
      have hlm : gl ≠ w10.heap.size := fun e => by have := Blk.lt (HKL.out.below hb10 HKL.out.lt); omega
      have HLM := Lib.hid hlm
      clear hk13 hk14 hone hb1314 hb11 hb10 HNW HKD HST HKX HKL hlm
      go_upto_region 34 with (first | (refine wpList_store_row rfl 38 (.tmp 16) (.tmp 130) rfl w10.heap.size #[.int .i64 S2.m.n, .int .i64 S2.m.epoch, .int .i64 S2.m.step, .int .i64 S2.m.sum, .int .i64 S2.m.most, .bool S2.m.done, .int .u32 S2.m.job] rfl rfl 38 _ HK13.out infoMf rfl HONE.out ?_))
      obtain ⟨w11, hw11⟩ : ∃ w11, (w10.alloc (.cells #[.int .i64 0, .int .i64 0, .int .i64 0, .int .i64 0, .int .i64 0, .bool false, .int .u32 0] 38)).setRow w10.heap.size #[.int .i64 S2.m.n, .int .i64 S2.m.epoch, .int .i64 S2.m.step, .int .i64 S2.m.sum, .int .i64 S2.m.most, .bool S2.m.done, .int .u32 S2.m.job] = w11 := ⟨_, rfl⟩
      obtain ⟨gm, hgm⟩ : ∃ gm, w10.heap.size = gm := ⟨_, rfl⟩
      rw [hw11] at HKM HKD11 HST11 HKX11 HKL11 ⊢
      rw [hgm] at HKM HLM ⊢
      clear hw11 hgm HK13
      obtain ⟨E1, hE1, hE1t⟩ := run_eql_ex S2.m S.m
      obtain ⟨E2, hE2, hE2t⟩ := run_eql_ex S2.m (nextM S m)
      have hka := HKM.out; have hkb := HKL11.out; have hkc := HKX11.out
      unfold mCells at hE1 hE2 hkb hkc
      have a0 := hka.cell 0; have a1 := hka.cell 1; have a2 := hka.cell 2; have a3 := hka.cell 3; have a4 := hka.cell 4; have a5 := hka.cell 5; have a6 := hka.cell 6
      have b0 := hkb.cell 0; have b1 := hkb.cell 1; have b2 := hkb.cell 2; have b3 := hkb.cell 3; have b4 := hkb.cell 4; have b5 := hkb.cell 5; have b6 := hkb.cell 6
      have e0 := hkc.cell 0; have e1 := hkc.cell 1; have e2 := hkc.cell 2; have e3 := hkc.cell 3; have e4 := hkc.cell 4; have e5 := hkc.cell 5; have e6 := hkc.cell 6
      simp only [List.getElem?_toArray, List.getElem?_cons_zero, List.getElem?_cons_succ] at  a0 a1 a2 a3 a4 a5 a6 b0 b1 b2 b3 b4 b5 b6 e0 e1 e2 e3 e4 e5 e6
      have hfin : (f = 0 ∧ (s2 && E2) = true) ∨ (f = 2 ∧ ((s2 == so) && E1) = true) ∨ (f = 160 ∧ (((s2 == so) && E1) = true ∨ (s2 && E2) = true)) := by
        rcases HANS.out with ⟨h1, rfl⟩ | ⟨h1, rfl⟩ | ⟨h1, rfl | rfl⟩
        · exact .inl ⟨h1, by rw [hE2t rfl, ← HS2.out]; rfl⟩
        · exact .inr (.inl ⟨h1, by rw [hE1t rfl, ← HS2.out, HSO.out]; simp⟩)
        · exact .inr (.inr ⟨h1, .inl (by rw [hE1t rfl, ← HS2.out, HSO.out]; simp)⟩)
        · exact .inr (.inr ⟨h1, .inr (by rw [hE2t rfl, ← HS2.out]; rfl)⟩)
      have HFIN := Lib.hid hfin
      clear hka hkb hkc hfin hE1t hE2t
      go_cut [18] (fun s18 wx => s18 = .bool ((s2 == so) && E1) ∧ w11 = wx)
      case first =>
        clear hE2 e0 e1 e2 e3 e4 e5 e6
        cases s2 <;> cases so
        all_goals
          go_wp2
          go_meet
          exact ⟨rfl, rfl⟩
      case rest =>
      as_aux_lemma =>
      obtain ⟨rfl, rfl⟩ := hcut
      clear hE1 b0 b1 b2 b3 b4 b5 b6
      go_upto_region 35 with (fail)
      go_cut [19] (fun s19 wx => s19 = .bool (s2 && E2) ∧ w11 = wx)
      case first =>
        cases s2
        all_goals
          go_wp2
          go_meet
          exact ⟨rfl, rfl⟩
      case rest =>
      as_aux_lemma =>
      obtain ⟨rfl, rfl⟩ := hcut
      clear hE2 a0 a1 a2 a3 a4 a5 a6 e0 e1 e2 e3 e4 e5 e6
      obtain ⟨WB, hWB⟩ : ∃ WB, ((s2 == so) && E1) = WB := ⟨_, rfl⟩
      obtain ⟨NB, hNB⟩ : ∃ NB, (s2 && E2) = NB := ⟨_, rfl⟩
      rw [hWB, hNB] at HFIN ⊢
      clear hWB hNB
      go_upto_region 36 with (fail)
      go_cut [167] (fun s167 wx => s167 = .bool false ∧ w11 = wx)
      case first =>
        rcases HFIN.out with ⟨rfl, rfl⟩ | ⟨rfl, rfl⟩ | ⟨rfl, rfl | rfl⟩
        · go_wp2
          go_meet
          exact ⟨rfl, rfl⟩
        · go_wp2
          go_meet
          exact ⟨rfl, rfl⟩
        · go_wp2
          go_meet
          exact ⟨rfl, rfl⟩
        · cases WB
          all_goals
            go_wp2
            go_meet
            exact ⟨rfl, rfl⟩
      case rest =>
      as_aux_lemma =>
      obtain ⟨rfl, rfl⟩ := hcut
      clear HFIN HANS HKX11
      have HOP := Lib.hid (k_open HKD11.out (by omega) HT.out)
      go_wp2_with fail
      refine HOP.out.mono ?_
      intro e w12 hP
      rcases hP with ⟨g12, L12, n12, l12, v12, rfl, h12, s12, -, hn12, k12, ks12⟩ | ⟨v12, -, rfl, h12, -, -⟩
      · have hnw := newest_any w12 g12 w.heap.size _ s12
        rw [show mCells S2.m = #[.int .i64 S2.m.n, .int .i64 S2.m.epoch, .int .i64 S2.m.step, .int .i64 S2.m.sum, .int .i64 S2.m.most, .bool S2.m.done, .int .u32 S2.m.job] from rfl, HS2.out] at hnw
        have HNW := Lib.hid hnw; have HKD12 := Lib.hid h12; have HST12 := Lib.hid (ks12 _ _ HST11.out); have HKL12 := Lib.hid (k12 _ _ HKL11.out); have HKM12 := Lib.hid (k12 _ _ HKM.out)
        clear hnw h12 s12 k12 ks12 HOP HKD11 HST11 HKL11 HKM
        go_wp2_with fail
        refine HNW.out.mono ?_
        rintro e w13 ⟨rfl, hb13⟩
        have hk13 := Blk.new w13 38 #[.int .i64 0, .int .i64 0, .int .i64 0, .int .i64 0, .int .i64 0, .bool false, .int .u32 0]
        have hk14 := hk13.setRow #[.int .i64 S2.m.n, .int .i64 S2.m.epoch, .int .i64 S2.m.step, .int .i64 S2.m.sum, .int .i64 S2.m.most, .bool S2.m.done, .int .u32 S2.m.job]
        have hb1314 := below_row ((Below.refl w13.heap.size w13).alloc (Nat.le_refl _) (.cells #[.int .i64 0, .int .i64 0, .int .i64 0, .int .i64 0, .int .i64 0, .bool false, .int .u32 0] 38)) (Nat.le_refl _) #[.int .i64 S2.m.n, .int .i64 S2.m.epoch, .int .i64 S2.m.step, .int .i64 S2.m.sum, .int .i64 S2.m.most, .bool S2.m.done, .int .u32 S2.m.job]
        have hb14 := hb13.trans (hb1314.mono hb13.size)
        have HK13 := Lib.hid hk13; have HKY := Lib.hid hk14; have HKD14 := Lib.hid (HKD12.out.below_ hb14); have HST14 := Lib.hid (HST12.out.below hb14); have HKL14 := Lib.hid (HKL12.out.below hb14 HKL12.out.lt); have HKM14 := Lib.hid (HKM12.out.below hb14 HKM12.out.lt)
        clear hk13 hk14 hb1314 hb14 hb13 HNW HKD12 HST12 HKL12 HKM12
        go_upto_region 41 with (first | (refine wpList_store_row rfl 38 (.tmp 22) (.tmp 178) rfl w13.heap.size #[.int .i64 S2.m.n, .int .i64 S2.m.epoch, .int .i64 S2.m.step, .int .i64 S2.m.sum, .int .i64 S2.m.most, .bool S2.m.done, .int .u32 S2.m.job] rfl rfl 38 _ HK13.out infoMf rfl HONE.out ?_))
        obtain ⟨w14, hw14⟩ : ∃ w14, (w13.alloc (.cells #[.int .i64 0, .int .i64 0, .int .i64 0, .int .i64 0, .int .i64 0, .bool false, .int .u32 0] 38)).setRow w13.heap.size #[.int .i64 S2.m.n, .int .i64 S2.m.epoch, .int .i64 S2.m.step, .int .i64 S2.m.sum, .int .i64 S2.m.most, .bool S2.m.done, .int .u32 S2.m.job] = w14 := ⟨_, rfl⟩
        rw [hw14] at HKY HKD14 HST14 HKL14 HKM14 ⊢
        clear hw14 HK13
        have hka := HKM14.out; have hkb := HKY.out
        have a0 := hka.cell 0; have a1 := hka.cell 1; have a2 := hka.cell 2; have a3 := hka.cell 3; have a4 := hka.cell 4; have a5 := hka.cell 5; have a6 := hka.cell 6
        have b0 := hkb.cell 0; have b1 := hkb.cell 1; have b2 := hkb.cell 2; have b3 := hkb.cell 3; have b4 := hkb.cell 4; have b5 := hkb.cell 5; have b6 := hkb.cell 6
        simp only [List.getElem?_toArray, List.getElem?_cons_zero, List.getElem?_cons_succ] at  a0 a1 a2 a3 a4 a5 a6 b0 b1 b2 b3 b4 b5 b6
        have hnq := run_neq_same S2.m
        unfold mCells at hnq
        have hof := (off_any w14 _ _ v12 _ HKD14.out.is).mono (fun _ _ ⟨h1, h2⟩ => (⟨h1, h2.symm⟩ : _ ∧ w14 = _))
        have HOF := Lib.hid hof
        clear hka hkb hof
        go_wp2_with fail
        clear hnq a0 a1 a2 a3 a4 a5 a6 b0 b1 b2 b3 b4 b5 b6
        refine HOF.out.mono ?_
        rintro e w15 ⟨rfl, rfl⟩
        have hkl := HKL14.out
        have hm15 := Moved.setRow_ w14 gl #[.int .i64 S2.m.n, .int .i64 S2.m.epoch, .int .i64 S2.m.step, .int .i64 S2.m.sum, .int .i64 S2.m.most, .bool S2.m.done, .int .u32 S2.m.job]
        have hkd15 := HKD14.out.moved hkl HGL.out hm15
        have hst15 := HST14.out.moved hkl hm15
        have hkl15 : Blk (w14.setRow gl #[.int .i64 S2.m.n, .int .i64 S2.m.epoch, .int .i64 S2.m.step, .int .i64 S2.m.sum, .int .i64 S2.m.most, .bool S2.m.done, .int .u32 S2.m.job]) gl 38 (mCells S2.m) := hkl.setRow #[.int .i64 S2.m.n, .int .i64 S2.m.epoch, .int .i64 S2.m.step, .int .i64 S2.m.sum, .int .i64 S2.m.most, .bool S2.m.done, .int .u32 S2.m.job]
        have hka := HKM14.out
        have a0 := hka.cell 0; have a1 := hka.cell 1; have a2 := hka.cell 2; have a3 := hka.cell 3; have a4 := hka.cell 4; have a5 := hka.cell 5; have a6 := hka.cell 6
        simp only [List.getElem?_toArray, List.getElem?_cons_zero, List.getElem?_cons_succ] at  a0 a1 a2 a3 a4 a5 a6
        unfold mCells at hkl
        have HKLL := Lib.hid hkl; have HKD15 := Lib.hid hkd15; have HST15 := Lib.hid hst15; have HKL15 := Lib.hid hkl15
        clear hkl hm15 hkd15 hst15 hkl15 hka HOF HKD14 HST14 HKL14 HKM14 HKY
        go_upto_region 46 with (first | (refine wpList_store_row rfl 38 (.tmp 8) (.tmp 191) rfl gl #[.int .i64 S2.m.n, .int .i64 S2.m.epoch, .int .i64 S2.m.step, .int .i64 S2.m.sum, .int .i64 S2.m.most, .bool S2.m.done, .int .u32 S2.m.job] rfl rfl 38 _ HKLL.out infoMf rfl HONE.out ?_))
        obtain ⟨w16, hw16⟩ : ∃ w16, w14.setRow gl #[.int .i64 S2.m.n, .int .i64 S2.m.epoch, .int .i64 S2.m.step, .int .i64 S2.m.sum, .int .i64 S2.m.most, .bool S2.m.done, .int .u32 S2.m.job] = w16 := ⟨_, rfl⟩
        rw [hw16] at HKD15 HST15 HKL15 ⊢
        clear hw16 a0 a1 a2 a3 a4 a5 a6 HKLL
        go_wp2
        go_roundg gf
        case measure => omega
        case rel => exact ⟨i + 1, L12, n12, l12, v12, S2, gs2, s2, rfl, rfl, rfl, HS2.out.symm, by go_num, by go_num, by omega, by omega, HKD15.out, HST15.out, HG2.out, HKL15.out⟩
      · have hof := (off_any w12 _ _ v12 _ h12.is).mono (fun _ _ ⟨h1, h2⟩ => (⟨h1, h2.symm⟩ : _ ∧ w12 = _))
        have HOF := Lib.hid hof; have HB12 := Lib.hid h12.below
        clear hof h12 HOP HKD11 HST11 HKL11 HKM
        go_wp2_with fail
        refine HOF.out.mono ?_
        rintro e w15 ⟨rfl, rfl⟩
        have HW := Lib.hid (HWK.out _ HB12.out)
        go_wp2_with fail
        refine HW.out.mono ?_
        rintro e w6 ⟨rfl, hb5⟩
        have HB5 := Lib.hid (HB0.out.trans ((HB12.out.trans (hb5.mono HB12.out.size)).mono HB0.out.size))
        clear hb5
        go_wp2
        go_ret
        exact ⟨rfl, HB5.out⟩
end Go.Proofs.YtlcgkcafelpglaaGreatDoor
