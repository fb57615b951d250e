/- The reference's store of manifests: Write. -/
import Derived.Test.YtlcgkcafelpglaaGreatDoorPk30
import Derived.Test.YtlcgkcafelpglaaGreatDoorRfN
import Derived.Test.YtlcgkcafelpglaaGreatDoorMaV
namespace Go.Proofs.YtlcgkcafelpglaaGreatDoor
open Go.RowKit Go.Maps

/-- what a call that changes a reference's disk, and a store, leaves -/
structure RAft (B gs : Nat) (w w' : World) (p : Nat) (S' : StD) (R' : RDisk) : Prop where
  is : RkIs w' B p R'
  st : RSt w' gs p S'
  below : Below B w w'
  blk : ∀ k, k < w.heap.size → k ≠ p → k ≠ gs → w'.heap[k]? = w.heap[k]?
section
variable {B gs p : Nat} {w w1 w2 : World} {S S1 S2 : StD} {R R1 R2 : RDisk}
theorem RkIs.ge (h : RkIs w B p R) : B ≤ w.heap.size := Nat.le_trans h.1 (Nat.le_of_lt h.lt)
theorem RAft.start (h : RkIs w B p R) (hs : RSt w gs p S) : RAft B gs w w p S R := ⟨h, hs, Below.refl _ _, fun _ _ _ _ => rfl⟩
theorem RAft.out (a : RAft B gs w w1 p S R1) (o : RkOut B w1 w2 p R2) : RAft B gs w w2 p S R2 :=
  ⟨o.is, o.keep_blk a.is a.st (by decide), a.below.trans (o.belowB a.is.ge), fun k hk h1 h2 => (o.moved.block k (Nat.lt_of_lt_of_le hk a.below.size) h1 (by simp)).trans (a.blk k hk h1 h2)⟩
theorem RAft.below_ (a : RAft B gs w w1 p S R1) (hb : Below w1.heap.size w1 w2) : RAft B gs w w2 p S R1 :=
  ⟨a.is.below hb, Blk.below a.st hb (Blk.lt a.st), a.below.trans (hb.mono a.is.ge), fun k hk h1 h2 => (hb.block k (Nat.lt_of_lt_of_le hk a.below.size)).trans (a.blk k hk h1 h2)⟩
theorem RSt.ne (h : RkIs w B p R) (hs : RSt w gs p S) : gs ≠ p := by
  obtain ⟨vf, vs, hb⟩ := h.blk
  intro e
  subst e
  exact blk_type hs hb (by decide)
theorem RAft.put (a : RAft B gs w w1 p S R1) (hB : B ≤ gs) (hm : Moved w1 w2 gs none) (hs : RSt w2 gs p S2) : RAft B gs w w2 p S2 R1 :=
  ⟨a.is.keep (keepF_moved a.st hm (by decide) (by decide)) (hm.block p a.is.lt (Ne.symm (RSt.ne a.is a.st)) (by simp)), hs, a.below.trans (hm.below hB (by simp) a.is.ge),
    fun k hk h1 h2 => (hm.block k (Nat.lt_of_lt_of_le hk a.below.size) h2 (by simp)).trans (a.blk k hk h1 h2)⟩
theorem RAft.keepB (a : RAft B gs w w1 p S R1) {g : Nat} {t : TypeId} {cs : Array Value} (hk : Blk w g t cs) (h1 : g ≠ p) (h2 : g ≠ gs) : Blk w1 g t cs := (a.blk g hk.lt h1 h2).trans hk
theorem RAft.base {w0 : World} (a : RAft B gs w w1 p S R1) (hb : Below w0.heap.size w0 w) (hB : B ≤ w0.heap.size) : RAft B gs w0 w1 p S R1 :=
  ⟨a.is, a.st, (hb.mono hB).trans a.below, fun k hk h1 h2 => (a.blk k (Nat.lt_of_lt_of_le hk hb.size) h1 h2).trans (hb.block k hk)⟩
theorem RAft.trans (a : RAft B gs w w1 p S R1) (b : RAft B gs w1 w2 p S2 R2) : RAft B gs w w2 p S2 R2 :=
  ⟨b.is, b.st, a.below.trans b.below, fun k hk h1 h2 => (b.blk k (Nat.lt_of_lt_of_le hk a.below.size) h1 h2).trans (a.blk k hk h1 h2)⟩
theorem loc8 {w : World} {g : Nat} {x : Int} {m : ManM} (hs : RSt w gs p S) (hk : Blk w g 46 #[.int .i64 x, .int .i64 m.epoch, .int .i64 m.step, .int .i64 m.sum, .int .i64 m.most, .bool m.done, .int .u32 m.job]) :
    w.cell? ⟨gs, 0, none⟩ = some (.pointer (some ⟨p, 0, none⟩)) ∧ w.cell? ⟨g, 0, none⟩ = some (.int .i64 x) ∧ w.cell? ⟨g, 1, none⟩ = some (.int .i64 m.epoch) ∧ w.cell? ⟨g, 2, none⟩ = some (.int .i64 m.step) ∧ w.cell? ⟨g, 3, none⟩ = some (.int .i64 m.sum) ∧ w.cell? ⟨g, 4, none⟩ = some (.int .i64 m.most) ∧ w.cell? ⟨g, 5, none⟩ = some (.bool m.done) ∧ w.cell? ⟨g, 6, none⟩ = some (.int .u32 m.job) :=
  ⟨Blk.cell hs 0, hk.cell 0, hk.cell 1, hk.cell 2, hk.cell 3, hk.cell 4, hk.cell 5, hk.cell 6⟩
theorem lay_storeR (p : Nat) (S : StD) (m : ManM) : layS (sCells p S) 1 [.int .i64 m.n, .int .i64 m.epoch, .int .i64 m.step, .int .i64 m.sum, .int .i64 m.most, .bool m.done, .int .u32 m.job] = zCells p m S.some := by
  simp [layS, sCells, zCells]
theorem rst_there (h : RSt w gs p S) : w.there gs 1 7 := by
  intro j hj
  refine ⟨?_, Blk.frozen h _⟩
  rw [Blk.cell h]
  have : (sCells p S).size = 9 := rfl
  rw [Array.getElem?_eq_getElem (by omega)]
  rfl
theorem rst_lay (h : RSt w gs p S) (m : ManM) : Moved w (w.setCells gs 1 [.int .i64 m.n, .int .i64 m.epoch, .int .i64 m.step, .int .i64 m.sum, .int .i64 m.most, .bool m.done, .int .u32 m.job]) gs none ∧
    Blk (w.setCells gs 1 [.int .i64 m.n, .int .i64 m.epoch, .int .i64 m.step, .int .i64 m.sum, .int .i64 m.most, .bool m.done, .int .u32 m.job]) gs 49 (zCells p m S.some) :=
  ⟨Moved.setCells gs _ 1 w, by rw [← lay_storeR]; exact Blk.setCells _ 1 h⟩
theorem rst_flag {m : ManM} {b : Bool} (h : Blk w gs 49 (zCells p m b)) : RSt (w.setCell ⟨gs, 8, none⟩ (.bool true)) gs p ⟨m, true⟩ := by
  have h2 := h.set_ 8 (.bool true)
  have e : (zCells p m b).setIfInBounds 8 (.bool true) = sCells p ⟨m, true⟩ := by simp [zCells, sCells]
  rw [e] at h2
  exact h2
theorem rz_cell {m : ManM} {b : Bool} (h : Blk w gs 49 (zCells p m b)) : w.cell? ⟨gs, 8, none⟩ = some (.bool b) ∧ w.frozen? ⟨gs, 8, none⟩ = false :=
  ⟨h.cell 8, h.frozen 8⟩
end
/-- the stages of Write fit -/
theorem w_stages {D : DiskD} {R : RDisk} (h : Sim D R) (hf : FitN D 6) (m : ManM) : ∃ D1 D2 D3 D4, (Sim D1 (clearR R).2 ∧ FitN D1 5) ∧ (Sim D2 (w2R R m).2 ∧ FitN D2 4) ∧ (Sim D3 (w3R R m).2 ∧ FitN D3 3) ∧ (Sim D4 (w4R R m).2 ∧ FitN D4 2) := by
  have s1 := (sim_clear h).2
  have f1 : FitN (clearD D).2 5 := hf.clear
  obtain ⟨D2, s2, f2⟩ : ∃ D2, Sim D2 (w2R R m).2 ∧ FitN D2 4 := by
    unfold w2R stepR
    split
    · exact ⟨_, (sim_append s1 tmpN m.bytes).2, f1.append _ _ (by rw [m.bytes_size]; decide)⟩
    · exact ⟨_, s1, f1.less (by decide)⟩
  obtain ⟨D3, s3, f3⟩ : ∃ D3, Sim D3 (w3R R m).2 ∧ FitN D3 3 := by
    unfold w3R stepR
    split
    · exact ⟨_, (sim_sync s2 tmpN).2, f2.step _ _ _ _ _⟩
    · exact ⟨_, s2, f2.less (by decide)⟩
  obtain ⟨D4, s4, f4⟩ : ∃ D4, Sim D4 (w4R R m).2 ∧ FitN D4 2 := by
    unfold w4R stepR
    split
    · exact ⟨_, (sim_rename s3 tmpN (nameM m.n)).2, f3.step _ _ _ _ _⟩
    · exact ⟨_, s3, f3.less (by decide)⟩
  exact ⟨_, D2, D3, D4, ⟨s1, f1⟩, ⟨s2, f2⟩, ⟨s3, f3⟩, ⟨s4, f4⟩⟩
/-- how Write ends -/
def WriteRP (B gs : Nat) (w : World) (p : Nat) (R : RDisk) (S : StD) (m : ManM) (e : Ending) (w' : World) : Prop :=
  e = .returned (.int .i64 (writeR R S m).1) ∧ RAft B gs w w' p (writeR R S m).2.2 (writeR R S m).2.1
/-- behind a stage -/
def RW (B gs : Nat) (w wk : World) (p : Nat) (S : StD) (x : Int × RDisk) (s5 : Value) : Prop := s5 = .int .i64 x.1 ∧ RAft B gs w wk p S x.2
theorem step_yes {x : Int × RDisk} (f : RDisk → Int × RDisk) (h : x.1 = 0) : stepR x f = f x.2 := by unfold stepR; rw [if_pos h]
theorem step_no {x : Int × RDisk} (f : RDisk → Int × RDisk) (h : x.1 ≠ 0) : stepR x f = x := by unfold stepR; rw [if_neg h]
section
variable (w : World) (B p gs : Nat) (D : DiskD) (R : RDisk) (S : StD) (m : ManM) (h : RkIs w B p R) (hB : B ≤ gs) (hs : RSt w gs p S)
include h hB hs
set_option maxRecDepth 100000 in
set_option maxHeartbeats 16000000 in
theorem rwrite_any (hsim : Sim D R) (hf : FitN D 6) (hm : m.Ok) (hS : 0 ≤ S.m.n ∧ S.m.n ≤ 4611686018427387904) :
    Calls Tryz.prog 23 #[.pointer (some ⟨gs, 0, none⟩), .agg (mCells m)] w (WriteRP B gs w p R S m) := by
  obtain ⟨hS0, hS1⟩ := hS
  have hmn : (nextM S m).Ok := ⟨⟨by show _ ≤ S.m.n + 1; omega, by show S.m.n + 1 ≤ _; omega⟩, hm.epoch, hm.step, hm.sum, hm.most, hm.job⟩
  have hlt := Blk.lt hs
  have hpl := h.lt
  have hBw : B ≤ w.heap.size := by omega
  have hcw : IntKind.i64.wrap (S.m.n + 1) = S.m.n + 1 := IntWalk.i64_in _ (by omega)
  have hsA := Blk.below hs ((Below.refl w.heap.size w).alloc (Nat.le_refl _) (.cells (mCells m) 46)) (Blk.lt hs)
  have a1 := hsA.cell 1
  simp only [sCells, List.getElem?_toArray, List.getElem?_cons_zero, List.getElem?_cons_succ] at a1
  have hne : gs ≠ w.heap.size := by omega
  have h1 : mCells (nextM S m) = #[.int .i64 (S.m.n + 1), .int .i64 m.epoch, .int .i64 m.step, .int .i64 m.sum, .int .i64 m.most, .bool m.done, .int .u32 m.job] := rfl
  have hb1 := (Below.refl w.heap.size w).alloc (Nat.le_refl _) (.cells (mCells (nextM S m)) 46)
  have hk1 := Blk.new w 46 (mCells (nextM S m))
  have hA1 := (RAft.start h hs).below_ hb1
  have hmay := rfMay_any (nextM S m)
  obtain ⟨D1, D2, D3, D4, st1, st2, st3, st4⟩ := w_stages hsim hf (nextM S m)
  rw [h1] at hk1 hA1 hb1 hmay
  have hA1 := hA1.base (Below.refl _ _) hBw
  have HA1 := Lib.hid hA1; have HK1 := Lib.hid hk1; have HMN := Lib.hid hmn; have H1 := Lib.hid h1; have HBW := Lib.hid hb1; have HMAY := Lib.hid hmay
  have HST1 := Lib.hid st1; have HST2 := Lib.hid st2; have HST3 := Lib.hid st3; have HST4 := Lib.hid st4; have HFR := Lib.hid (sim_fit hsim hf)
  clear h hs hsA hA1 hk1 hf hm hmn h1 hb1 hmay st1 st2 st3 st4 hsim
  unfold mCells at a1 ⊢
  go_enter Tryz.func23, Tryz.ntmps23
  go_wp2_with fail
  refine (HMAY.out _).mono ?_
  rintro e w2 ⟨rfl, hb2⟩
  have ha2 := HA1.out.below_ hb2
  have hk2 := HK1.out.below hb2 HK1.out.lt
  obtain ⟨g, hg⟩ : ∃ g, w.heap.size = g := ⟨_, rfl⟩
  have hgp : g ≠ p := by omega
  have hgg : g ≠ gs := by omega
  have hs0 := RAft.start ha2.is ha2.st
  rw [hg] at hk2 ⊢
  have HA2 := Lib.hid ha2; have HK2 := Lib.hid hk2; have HS0 := Lib.hid hs0
  clear ha2 hk2 hs0 hb2 hg HA1 HK1 HBW HMAY a1 hcw hne hlt hpl
  cases hmay : (nextM S m).may with
  | false =>
    have hwr : writeR R S m = (2, R, S) := by unfold writeR; rw [if_pos hmay]
    have HWR := Lib.hid hwr
    clear hwr hmay
    go_wp2
    go_ret
    exact ⟨by rw [HWR.out]; rfl, by rw [HWR.out]; exact HA2.out⟩
  | true =>
    have hwr : writeR R S m = writeR R S m := rfl
    conv at hwr => rhs; unfold writeR; rw [if_neg (by simp [hmay])]
    have hth := rthere_any w2 B p gs R S HS0.out.is HFR.out HS0.out.st tmpN
    have hrm := rremove_any w2 B p R HS0.out.is HFR.out tmpN
    have hcl : clearR R = if decide ((R.read tmpN).1 = 0) = true then R.remove tmpN else (0, R) := by unfold clearR; simp only [decide_eq_true_eq]
    obtain ⟨b1, hb1⟩ : ∃ b1, decide ((R.read tmpN).1 = 0) = b1 := ⟨_, rfl⟩
    rw [hb1] at hth hcl
    obtain ⟨x1, hx1⟩ : ∃ x1, R.remove tmpN = x1 := ⟨_, rfl⟩
    rw [hx1] at hrm hcl
    rw [show tmpN = ⟨#[109, 102, 46, 116, 109, 112]⟩ from rfl] at hth hrm
    have c0 : w2.cell? ⟨gs, 0, none⟩ = some (.pointer (some ⟨p, 0, none⟩)) := Blk.cell HS0.out.st 0
    have HWR := Lib.hid hwr; have HTH := Lib.hid hth; have HRM := Lib.hid hrm; have HCL := Lib.hid hcl
    clear hwr hth hrm hcl hb1 hx1 hmay
    go_upto_if 19 with (refine HTH.out.mono ?_; rintro e w3 ⟨rfl, rfl⟩)
    go_cut [5] (fun s5 wx => RW B gs w2 wx p S (clearR R) s5)
    case first =>
      cases b1 with
      | false =>
        go_wp2
        go_meet
        exact ⟨by rw [HCL.out]; rfl, by rw [HCL.out]; exact HS0.out⟩
      | true =>
        go_wp2_with fail
        refine HRM.out.mono ?_
        rintro e w3 ⟨rfl, o3⟩
        have HO3 := Lib.hid o3
        clear o3
        go_wp2
        go_meet
        exact ⟨by rw [HCL.out]; rfl, by rw [HCL.out]; exact HS0.out.out HO3.out⟩
    case rest =>
    obtain ⟨rfl, ha⟩ := hcut
    have hx2 : w2R R (nextM S m) = stepR (clearR R) (fun R => R.append tmpN (nextM S m).bytes) := rfl
    obtain ⟨x1', hx1⟩ : ∃ x, clearR R = x := ⟨_, rfl⟩
    have hst1 := HST1.out
    rw [hx1] at ha hx2 hst1 ⊢
    obtain ⟨E1, R1⟩ := x1'
    have HA3 := Lib.hid (show RAft B gs w2 wc p S R1 from ha); have HX2 := Lib.hid hx2; have HF1 := Lib.hid (sim_fit (show Sim D1 R1 from hst1.1) hst1.2)
    clear ha hx2 hst1 hx1 HST1 HTH HRM HCL HS0 HFR c0 x1
    dsimp only
    obtain ⟨w3, hw3⟩ : ∃ w3, w3 = wc := ⟨_, rfl⟩
    subst hw3
    go_upto_if 26 with (fail)
    go_cut [5] (fun s5 wx => RW B gs w2 wx p S (w2R R (nextM S m)) s5)
    case first =>
      by_cases hE : E1 = 0
      case neg =>
        have hEb : (E1 == 0) = false := by simpa using hE
        have hx : w2R R (nextM S m) = (E1, R1) := by rw [HX2.out, step_no _ hE]
        have HX := Lib.hid hx
        clear hE hx
        go_wp2
        go_meet
        exact ⟨by rw [HX.out], by rw [HX.out]; exact HA3.out⟩
      subst hE
      have hx : w2R R (nextM S m) = R1.append tmpN (nextM S m).bytes := by rw [HX2.out, step_yes _ rfl]
      have hby := rfBytes_any (nextM S m) HMN.out w3.drew
      rw [H1.out] at hby
      have ka := loc8 (HA3.out.below_ ((Below.refl w3.heap.size w3).drew)).st ((HA3.out.below_ ((Below.refl w3.heap.size w3).drew)).keepB HK2.out hgp hgg)
      have hap : ∀ w4 bv, Below w3.heap.size w3 w4 → Bt w4 bv (nextM S m).bytes → Calls Tryz.prog 17 #[.pointer (some ⟨p, 0, none⟩), .string tmpN, bv] w4 fun e w' => e = .returned (.int .i64 (R1.append tmpN (nextM S m).bytes).1) ∧ RAft B gs w2 w' p S (R1.append tmpN (nextM S m).bytes).2 := fun w4 bv hb hbt => by
        have ha4 := HA3.out.below_ hb
        exact (rappend_any w4 B p R1 ha4.is HF1.out tmpN bv _ hbt.btr (by rw [(nextM S m).bytes_size]; decide)).mono fun e w' ⟨he, o⟩ => ⟨he, ha4.out o⟩
      obtain ⟨x2, hx2⟩ : ∃ x2, R1.append tmpN (nextM S m).bytes = x2 := ⟨_, rfl⟩
      rw [hx2] at hap hx
      rw [show tmpN = ⟨#[109, 102, 46, 116, 109, 112]⟩ from rfl] at hap
      have HX := Lib.hid hx; have HBY := Lib.hid hby; have HKA := Lib.hid ka; have HAP := Lib.hid hap
      clear hx hby ka hap hx2
      go_wp2_with fail
      go_region_held3 (fun w' => w'.cell? ⟨gs, 0, none⟩ = some (.pointer (some ⟨p, 0, none⟩)) ∧ w'.cell? ⟨g, 0, none⟩ = some (.int .i64 (S.m.n + 1)) ∧ w'.cell? ⟨g, 1, none⟩ = some (.int .i64 m.epoch) ∧ w'.cell? ⟨g, 2, none⟩ = some (.int .i64 m.step) ∧ w'.cell? ⟨g, 3, none⟩ = some (.int .i64 m.sum) ∧ w'.cell? ⟨g, 4, none⟩ = some (.int .i64 m.most) ∧ w'.cell? ⟨g, 5, none⟩ = some (.bool m.done) ∧ w'.cell? ⟨g, 6, none⟩ = some (.int .u32 m.job)) (first | exact HKC.out | exact HKB.out | exact HKA.out) (first | (go_at_call 24; (with_reducible refine HBY.out.mono ?_); rintro e w4 ⟨bv, rfl, hbt, -, hb4⟩; have hb4 : Below w3.heap.size w3 w4 := undrew hb4; have HKB := Lib.hid (loc8 (HA3.out.below_ hb4).st ((HA3.out.below_ hb4).keepB HK2.out hgp hgg)); have HB4 := Lib.hid hb4; have HBT := Lib.hid hbt; clear hb4 hbt) | (go_at_call 17; (with_reducible refine (HAP.out _ _ HB4.out HBT.out).mono ?_); rintro e w5 ⟨rfl, ha5⟩; have HKC := Lib.hid (loc8 ha5.st (ha5.keepB HK2.out hgp hgg)); have HA5 := Lib.hid ha5; clear ha5))
      go_wp2_with fail
      go_meet
      exact ⟨by rw [HX.out], by rw [HX.out]; exact HA5.out⟩
    case rest =>
    obtain ⟨rfl, ha⟩ := hcut
    have hx3 : w3R R (nextM S m) = stepR (w2R R (nextM S m)) (fun R => R.sync tmpN) := rfl
    obtain ⟨x2, hx2⟩ : ∃ x, w2R R (nextM S m) = x := ⟨_, rfl⟩
    have hst2 := HST2.out
    rw [hx2] at ha hx3 hst2 ⊢
    obtain ⟨E2, R2⟩ := x2
    have HA4 := Lib.hid (show RAft B gs w2 wc p S R2 from ha); have HX3 := Lib.hid hx3; have HF2 := Lib.hid (sim_fit (show Sim D2 R2 from hst2.1) hst2.2)
    clear ha hx3 hst2 hx2 HST2 HX2 HA3 HF1
    dsimp only
    obtain ⟨w4, hw4⟩ : ∃ w4, w4 = wc := ⟨_, rfl⟩
    subst hw4
    go_upto_if 35 with (fail)
    go_cut [5] (fun s5 wx => RW B gs w2 wx p S (w3R R (nextM S m)) s5)
    case first =>
      by_cases hE : E2 = 0
      case neg =>
        have hEb : (E2 == 0) = false := by simpa using hE
        have hx : w3R R (nextM S m) = (E2, R2) := by rw [HX3.out, step_no _ hE]
        have HX := Lib.hid hx
        clear hE hx
        go_wp2
        go_meet
        exact ⟨by rw [HX.out], by rw [HX.out]; exact HA4.out⟩
      subst hE
      have hx : w3R R (nextM S m) = R2.sync tmpN := by rw [HX3.out, step_yes _ rfl]
      have hsy := rsync_any w4 B p R2 HA4.out.is HF2.out tmpN
      obtain ⟨x3, hx3⟩ : ∃ x3, R2.sync tmpN = x3 := ⟨_, rfl⟩
      rw [hx3] at hsy hx
      rw [show tmpN = ⟨#[109, 102, 46, 116, 109, 112]⟩ from rfl] at hsy
      have c0 : w4.cell? ⟨gs, 0, none⟩ = some (.pointer (some ⟨p, 0, none⟩)) := Blk.cell HA4.out.st 0
      have HX := Lib.hid hx; have HSY := Lib.hid hsy
      clear hx hsy hx3
      go_wp2_with fail
      refine HSY.out.mono ?_
      rintro e w5 ⟨rfl, o5⟩
      have HO5 := Lib.hid o5
      clear o5 c0
      go_wp2
      go_meet
      exact ⟨by rw [HX.out], by rw [HX.out]; exact HA4.out.out HO5.out⟩
    case rest =>
    obtain ⟨rfl, ha⟩ := hcut
    have hx4 : w4R R (nextM S m) = stepR (w3R R (nextM S m)) (fun R => R.rename tmpN (nameM (S.m.n + 1))) := rfl
    obtain ⟨x3, hx3⟩ : ∃ x, w3R R (nextM S m) = x := ⟨_, rfl⟩
    have hst3 := HST3.out
    rw [hx3] at ha hx4 hst3 ⊢
    obtain ⟨E3, R3⟩ := x3
    have HA5 := Lib.hid (show RAft B gs w2 wc p S R3 from ha); have HX4 := Lib.hid hx4; have HF3 := Lib.hid (sim_fit (show Sim D3 R3 from hst3.1) hst3.2)
    clear ha hx4 hst3 hx3 HST3 HX3 HA4 HF2
    dsimp only
    obtain ⟨w5, hw5⟩ : ∃ w5, w5 = wc := ⟨_, rfl⟩
    subst hw5
    go_upto_if 42 with (fail)
    go_cut [5] (fun s5 wx => RW B gs w2 wx p S (w4R R (nextM S m)) s5)
    case first =>
      by_cases hE : E3 = 0
      case neg =>
        have hEb : (E3 == 0) = false := by simpa using hE
        have hx : w4R R (nextM S m) = (E3, R3) := by rw [HX4.out, step_no _ hE]
        have HX := Lib.hid hx
        clear hE hx
        go_wp2
        go_meet
        exact ⟨by rw [HX.out], by rw [HX.out]; exact HA5.out⟩
      subst hE
      have hx : w4R R (nextM S m) = R3.rename tmpN (nameM (S.m.n + 1)) := by rw [HX4.out, step_yes _ rfl]
      have hnm := fun W : World => rname_any W (S.m.n + 1) (by omega) (by omega)
      have ka : w5.drew.cell? ⟨gs, 0, none⟩ = some (.pointer (some ⟨p, 0, none⟩)) ∧ w5.drew.cell? ⟨g, 0, none⟩ = some (.int .i64 (S.m.n + 1)) := ⟨Blk.cell HA5.out.st 0, (HA5.out.keepB HK2.out hgp hgg).cell 0⟩
      have hrn := rrename_any w5.drew B p R3 (HA5.out.below_ ((Below.refl w5.heap.size w5).drew)).is HF3.out tmpN (nameM (S.m.n + 1))
      have hrn := hrn.mono (R' := fun e w' => e = .returned (.int .i64 (R3.rename tmpN (nameM (S.m.n + 1))).1) ∧ RAft B gs w2 w' p S (R3.rename tmpN (nameM (S.m.n + 1))).2) fun e w' ⟨he, o⟩ => ⟨he, (HA5.out.below_ ((Below.refl w5.heap.size w5).drew)).out o⟩
      obtain ⟨x4, hx4⟩ : ∃ x4, R3.rename tmpN (nameM (S.m.n + 1)) = x4 := ⟨_, rfl⟩
      rw [hx4] at hrn hx
      rw [show tmpN = ⟨#[109, 102, 46, 116, 109, 112]⟩ from rfl] at hrn
      obtain ⟨nm, hnme⟩ : ∃ nm, nameM (S.m.n + 1) = nm := ⟨_, rfl⟩
      rw [hnme] at hnm hrn
      have HX := Lib.hid hx; have HNM := Lib.hid hnm; have HKA := Lib.hid ka; have HRN := Lib.hid hrn
      clear hx hnm ka hrn hx4 hnme
      go_wp2_with fail
      go_region_held3 (fun w' => w'.cell? ⟨gs, 0, none⟩ = some (.pointer (some ⟨p, 0, none⟩)) ∧ w'.cell? ⟨g, 0, none⟩ = some (.int .i64 (S.m.n + 1))) (first | exact HKC.out | exact HKA.out) (first | (go_at_call 36; (with_reducible refine (HNM.out _).mono ?_); rintro e w6 ⟨rfl, rfl⟩) | (go_at_call 59; (with_reducible refine HRN.out.mono ?_); rintro e w6 ⟨rfl, ha6⟩; have HKC := Lib.hid (show w6.cell? ⟨gs, 0, none⟩ = some (.pointer (some ⟨p, 0, none⟩)) ∧ w6.cell? ⟨g, 0, none⟩ = some (.int .i64 (S.m.n + 1)) from ⟨Blk.cell ha6.st 0, (ha6.keepB HK2.out hgp hgg).cell 0⟩); have HA6 := Lib.hid ha6; clear ha6))
      go_wp2_with fail
      go_meet
      exact ⟨by rw [HX.out], by rw [HX.out]; exact HA6.out⟩
    case rest =>
    obtain ⟨rfl, ha⟩ := hcut
    have hwr := HWR.out
    have hx5 : w5R R (nextM S m) = if (w4R R (nextM S m)).1 = 161 then (clearR (w4R R (nextM S m)).2).2 else (w4R R (nextM S m)).2 := rfl
    obtain ⟨x4, hx4⟩ : ∃ x, w4R R (nextM S m) = x := ⟨_, rfl⟩
    have hst4 := HST4.out
    rw [hx4] at ha hwr hst4 hx5 ⊢
    obtain ⟨E4, R4⟩ := x4
    have HA6 := Lib.hid (show RAft B gs w2 wc p S R4 from ha); have HF4 := Lib.hid (sim_fit (show Sim D4 R4 from hst4.1) hst4.2); have HWR2 := Lib.hid hwr; have HX5 := Lib.hid hx5
    clear ha hst4 hx4 hwr hx5 HST4 HX4 HA5 HF3 HWR
    dsimp only
    obtain ⟨w6, hw6⟩ : ∃ w6, w6 = wc := ⟨_, rfl⟩
    subst hw6
    by_cases hE : E4 = 0
    case neg =>
      have hwr := HWR2.out
      rw [if_pos hE] at hwr
      have hEb : (E4 != 0) = true := by simpa using hE
      by_cases h161 : E4 = 161
      case neg =>
        have hx5 := HX5.out
        rw [if_neg h161] at hx5
        rw [hx5] at hwr
        have HWR3 := Lib.hid hwr
        have h161b : (E4 == 161) = false := by simpa using h161
        clear hwr hE h161 hx5
        go_wp2
        go_ret
        exact ⟨by rw [HWR3.out]; rfl, by rw [HWR3.out]; exact HA2.out.trans HA6.out⟩
      subst h161
      have hx5 := HX5.out
      rw [if_pos rfl] at hx5
      rw [hx5] at hwr
      have hth := rthere_any w6 B p gs R4 S HA6.out.is HF4.out HA6.out.st tmpN
      have hrm := rremove_any w6 B p R4 HA6.out.is HF4.out tmpN
      have hcl : clearR R4 = if decide ((R4.read tmpN).1 = 0) = true then R4.remove tmpN else (0, R4) := by unfold clearR; simp only [decide_eq_true_eq]
      obtain ⟨b1, hb1⟩ : ∃ b1, decide ((R4.read tmpN).1 = 0) = b1 := ⟨_, rfl⟩
      rw [hb1] at hth hcl
      obtain ⟨x1, hx1⟩ : ∃ x1, R4.remove tmpN = x1 := ⟨_, rfl⟩
      rw [hx1] at hrm hcl
      rw [show tmpN = ⟨#[109, 102, 46, 116, 109, 112]⟩ from rfl] at hth hrm
      have c0 : w6.cell? ⟨gs, 0, none⟩ = some (.pointer (some ⟨p, 0, none⟩)) := Blk.cell HA6.out.st 0
      have HWR3 := Lib.hid hwr; have HTH := Lib.hid hth; have HRM := Lib.hid hrm; have HCL := Lib.hid hcl
      clear hwr hth hrm hcl hb1 hx1 hx5 hE
      go_wp2_with fail
      refine HTH.out.mono ?_
      rintro e w7 ⟨rfl, rfl⟩
      cases b1 with
      | false =>
        have hcl := HCL.out
        rw [if_neg (by simp)] at hcl
        have HCL2 := Lib.hid hcl
        clear hcl
        go_wp2
        go_ret
        exact ⟨by rw [HWR3.out]; rfl, by rw [HWR3.out, HCL2.out]; exact HA2.out.trans HA6.out⟩
      | true =>
        have hcl := HCL.out
        rw [if_pos rfl] at hcl
        have HCL2 := Lib.hid hcl
        clear hcl
        go_wp2_with fail
        refine HRM.out.mono ?_
        rintro e w8 ⟨rfl, o8⟩
        have HO8 := Lib.hid o8
        clear o8 c0
        go_wp2
        go_ret
        exact ⟨by rw [HWR3.out]; rfl, by rw [HWR3.out, HCL2.out]; exact HA2.out.trans (HA6.out.out HO8.out)⟩
    subst hE
    have hwr := HWR2.out
    rw [if_neg (by simp)] at hwr
    have hs7 := HA6.out
    have c0 : w6.cell? ⟨gs, 0, none⟩ = some (.pointer (some ⟨p, 0, none⟩)) := Blk.cell hs7.st 0
    have c1 : w6.cell? ⟨gs, 1, none⟩ = some (.int .i64 S.m.n) := Blk.cell hs7.st 1
    have c2 : w6.cell? ⟨gs, 2, none⟩ = some (.int .i64 S.m.epoch) := Blk.cell hs7.st 2
    have c3 : w6.cell? ⟨gs, 3, none⟩ = some (.int .i64 S.m.step) := Blk.cell hs7.st 3
    have c4 : w6.cell? ⟨gs, 4, none⟩ = some (.int .i64 S.m.sum) := Blk.cell hs7.st 4
    have c5 : w6.cell? ⟨gs, 5, none⟩ = some (.int .i64 S.m.most) := Blk.cell hs7.st 5
    have c6 : w6.cell? ⟨gs, 6, none⟩ = some (.bool S.m.done) := Blk.cell hs7.st 6
    have c7 : w6.cell? ⟨gs, 7, none⟩ = some (.int .u32 S.m.job) := Blk.cell hs7.st 7
    have c8 : w6.cell? ⟨gs, 8, none⟩ = some (.bool S.some) := Blk.cell hs7.st 8
    have HWR3 := Lib.hid hwr
    have hb8 := ((Below.refl w6.heap.size w6).alloc (Nat.le_refl _) (.cells (mCells S.m) 46)).drew
    have hs8 := hs7.below_ hb8
    have ho8 := (Blk.new w6 46 (mCells S.m)).drew
    have hl7 := Blk.lt HA6.out.st
    have hp7 := HA6.out.is.lt
    have HS8 := Lib.hid hs8; have HO8 := Lib.hid ho8
    clear hwr hs7 hs8 ho8 hb8 HA6 HWR2 HX5
    go_upto_region 17 with (fail)
    go_cut [6, 7] (fun s6 s7 wx => s6 = .pointer (some ⟨w6.heap.size, 0, none⟩) ∧ s7 = .bool S.some ∧ RAft B gs w2 wx p S R4 ∧ Blk wx w6.heap.size 46 (mCells S.m))
    case first =>
      go_region_held3 (fun w' => w'.cell? ⟨gs, 1, none⟩ = some (.int .i64 S.m.n) ∧ w'.cell? ⟨gs, 2, none⟩ = some (.int .i64 S.m.epoch) ∧ w'.cell? ⟨gs, 3, none⟩ = some (.int .i64 S.m.step) ∧ w'.cell? ⟨gs, 4, none⟩ = some (.int .i64 S.m.sum) ∧ w'.cell? ⟨gs, 5, none⟩ = some (.int .i64 S.m.most) ∧ w'.cell? ⟨gs, 6, none⟩ = some (.bool S.m.done) ∧ w'.cell? ⟨gs, 7, none⟩ = some (.int .u32 S.m.job) ∧ w'.cell? ⟨gs, 8, none⟩ = some (.bool S.some)) (go_keep) (fail)
      go_wp2_with fail
      go_meet
      exact ⟨rfl, rfl, HS8.out, HO8.out⟩
    case rest =>
    clear c0 c1 c2 c3 c4 c5 c6 c7 c8 HS8 HO8
    obtain ⟨rfl, rfl, hs8, ho8⟩ := hcut
    obtain ⟨w8, hw8⟩ : ∃ w8, w8 = wc := ⟨_, rfl⟩
    subst hw8
    have hl8 := hs8.keepB HK2.out hgp hgg
    have hth := rst_there hs8.st
    obtain ⟨hmz, hkz⟩ := rst_lay hs8.st (nextM S m)
    obtain ⟨wz, hz⟩ : ∃ wz, w8.setCells gs 1 (#[.int .i64 (S.m.n + 1), .int .i64 m.epoch, .int .i64 m.step, .int .i64 m.sum, .int .i64 m.most, .bool m.done, .int .u32 m.job] : Array Value).toList = wz := ⟨_, rfl⟩
    have hmz : Moved w8 wz gs none := by rw [← hz]; exact hmz
    have hkz : Blk wz gs 49 (zCells p (nextM S m) S.some) := by rw [← hz]; exact hkz
    obtain ⟨z8, fz8⟩ := rz_cell hkz
    have hone := mCells_oneA (nextM S m)
    rw [H1.out] at hone
    have HONE := Lib.hid hone
    clear hone
    have hst9 := rst_flag hkz
    have hmv := hmz.trans (Moved.set_ wz gs 8 none (.bool true)) (.inl rfl)
    have hgo : gs ≠ w6.heap.size := by omega
    have ha9 := hs8.put hB hmv hst9
    have ho9 := moved_blk ho8 hmv (Ne.symm hgo) (by simp)
    have HA9 := Lib.hid ha9; have HO9 := Lib.hid ho9; have HL8 := Lib.hid hl8; have HTH := Lib.hid hth; have HZ := Lib.hid hz
    clear hmz hkz hst9 hmv ha9 ho9 hl8 hth hs8 ho8 hz
    iterate 10 (first | (refine wpList_load_row rfl 46 (.tmp 3) (by rfl) g (by rfl) 46 #[.int .i64 (S.m.n + 1), .int .i64 m.epoch, .int .i64 m.step, .int .i64 m.sum, .int .i64 m.most, .bool m.done, .int .u32 m.job] (0, 0) _ HL8.out Tryz.underlying46 rfl infoRf ?_) | go_step | go_upon | skip)
    iterate 3 (first | go_step | go_upon | skip)
    refine wpList_store_midz rfl 46 (.tmp 76) (.tmp 74) (by rfl) gs 1 #[.int .i64 (S.m.n + 1), .int .i64 m.epoch, .int .i64 m.step, .int .i64 m.sum, .int .i64 m.most, .bool m.done, .int .u32 m.job] (by rfl) (by rfl) HTH.out infoRf HONE.out wz HZ.out ?_
    clear HTH HZ HL8 HONE
    go_upto_region 20 with (fail)
    clear z8 fz8
    obtain ⟨w9, hw9⟩ : ∃ w9, wz.setCell ⟨gs, 8, none⟩ (.bool true) = w9 := ⟨_, rfl⟩
    rw [hw9] at HA9 HO9 ⊢
    clear hw9
    have hwr := HWR3.out
    cases hsm : S.some with
    | false =>
      rw [if_neg (by simp [hsm])] at hwr
      have HWR4 := Lib.hid hwr
      clear hwr HWR3 HO9 hsm
      go_wp2
      go_ret
      exact ⟨by rw [HWR4.out]; rfl, by rw [HWR4.out]; exact HA2.out.trans HA9.out⟩
    | true =>
      rw [if_pos hsm] at hwr
      have ha9 := HA9.out
      have hnm := fun W : World => rname_any W S.m.n (by omega) (by omega)
      have ka : w9.drew.cell? ⟨gs, 0, none⟩ = some (.pointer (some ⟨p, 0, none⟩)) ∧ w9.drew.cell? ⟨w6.heap.size, 0, none⟩ = some (.int .i64 S.m.n) := ⟨Blk.cell ha9.st 0, HO9.out.cell 0⟩
      have hrn := rremove_any w9.drew B p R4 (ha9.below_ ((Below.refl w9.heap.size w9).drew)).is HF4.out (nameM S.m.n)
      have hrn := hrn.mono (R' := fun e w' => e = .returned (.int .i64 (R4.remove (nameM S.m.n)).1) ∧ RAft B gs w2 w' p ⟨nextM S m, true⟩ (R4.remove (nameM S.m.n)).2 ∧ w'.cell? ⟨w6.heap.size, 0, none⟩ = some (.int .i64 S.m.n)) fun e w' ⟨he, o⟩ => ⟨he, (ha9.below_ ((Below.refl w9.heap.size w9).drew)).out o, (o.keep_blk (ha9.below_ ((Below.refl w9.heap.size w9).drew)).is HO9.out.drew (by decide)).cell 0⟩
      obtain ⟨x5, hx5⟩ : ∃ x5, R4.remove (nameM S.m.n) = x5 := ⟨_, rfl⟩
      rw [hx5] at hrn hwr
      obtain ⟨nm, hnme⟩ : ∃ nm, nameM S.m.n = nm := ⟨_, rfl⟩
      rw [hnme] at hnm hrn
      have HWR4 := Lib.hid hwr; have HNM := Lib.hid hnm; have HKA := Lib.hid ka; have HRN := Lib.hid hrn
      clear hwr hnm ka hrn hx5 hnme ha9 HWR3 hsm HO9
      go_wp2_with fail
      go_region_held3 (fun w' => w'.cell? ⟨gs, 0, none⟩ = some (.pointer (some ⟨p, 0, none⟩)) ∧ w'.cell? ⟨w6.heap.size, 0, none⟩ = some (.int .i64 S.m.n)) (first | exact HKC.out | exact HKA.out) (first | (go_at_call 36; (with_reducible refine (HNM.out _).mono ?_); rintro e w10 ⟨rfl, rfl⟩) | (go_at_call 37; (with_reducible refine HRN.out.mono ?_); rintro e w10 ⟨rfl, ha10, hc10⟩; have HKC := Lib.hid (show w10.cell? ⟨gs, 0, none⟩ = some (.pointer (some ⟨p, 0, none⟩)) ∧ w10.cell? ⟨w6.heap.size, 0, none⟩ = some (.int .i64 S.m.n) from ⟨Blk.cell ha10.st 0, hc10⟩); have HA10 := Lib.hid ha10; clear ha10 hc10))
      go_wp2
      go_ret
      exact ⟨by rw [HWR4.out]; rfl, by rw [HWR4.out]; exact HA2.out.trans HA10.out⟩
end
end Go.Proofs.YtlcgkcafelpglaaGreatDoor
