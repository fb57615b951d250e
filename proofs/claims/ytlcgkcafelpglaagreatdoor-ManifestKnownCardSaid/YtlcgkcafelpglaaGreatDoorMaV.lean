/- A store of manifests: Write. -/
import Derived.Test.YtlcgkcafelpglaaGreatDoorPk30
import Derived.Test.YtlcgkcafelpglaaGreatDoorMaS
import Derived.ScopeJumps
import Derived.Deep.RegionWith
import Derived.Deep.DeepCutAuto
namespace Go.Proofs.YtlcgkcafelpglaaGreatDoor
open Go.RowKit Go.Maps

/-- what a call that changes a disk, and a store, leaves -/
structure Aft (B gs : Nat) (w w' : World) (p : Nat) (v : Value) (S' : StD) (D' : DiskD) (v1 : Value) : Prop where
  is : DiskIs w' B p v1 D'
  st : StIs w' gs p S'
  below : Below B w w'
  bt : ∀ x s, Bt w x s → Bt w' x s
  blk : ∀ (g : Nat) cs t fz, g ≠ gs → t ≠ 64 → t ≠ 86 → w.heap[g]? = some (.cells cs t fz) → w'.heap[g]? = w.heap[g]?
  other : ∀ B' p' v' D2, DiskIs w B' p' v' D2 → Apart p v p' v' → DiskIs w' B' p' v' D2 ∧ Apart p v1 p' v'
section
variable {B gs p : Nat} {w w1 w2 : World} {v v1 v2 : Value} {S S1 S2 : StD} {D D1 D2 : DiskD}
theorem Aft.start (h : DiskIs w B p v D) (hs : StIs w gs p S) : Aft B gs w w p v S D v := ⟨h, hs, Below.refl _ _, fun _ _ h => h, fun _ _ _ _ _ _ _ _ => rfl, fun _ _ _ _ h ha => ⟨h, ha⟩⟩
theorem Aft.out (a : Aft B gs w w1 p v S D1 v1) (o : Out B w1 w2 p v1 D2 v2) : Aft B gs w w2 p v S D2 v2 :=
  ⟨o.is, a.st.out o, a.below.trans o.below, fun x s h => o.bt x s (a.bt x s h), fun g cs t fz h0 h1 h2 hh => by
    have e := a.blk g cs t fz h0 h1 h2 hh
    exact (o.blk g cs t fz h1 h2 (e.trans hh)).trans e, fun B' p' v' D2 h2 ha => by
    obtain ⟨x, y⟩ := a.other B' p' v' D2 h2 ha
    exact o.other B' p' v' D2 x y⟩
theorem Aft.lt (a : Aft B gs w w1 p v S D1 v1) : B ≤ w1.heap.size := Nat.le_trans a.is.1 (Nat.le_of_lt a.is.blk.lt)
theorem Aft.below_ (a : Aft B gs w w1 p v S D1 v1) (hb : Below w1.heap.size w1 w2) : Aft B gs w w2 p v S D1 v1 := a.out (Out.of_below a.is a.lt hb)
theorem StIs.noU (hs : StIs w gs p S) : ∀ cs fz, w.heap[gs]? ≠ some (Obj.cells cs 5 fz) := fun _ _ hh => blk_type hs hh (by decide)
theorem DiskIs.store {q B' : Nat} (h : DiskIs w B' q v D) (hs : StIs w gs p S) (m : Moved w w1 gs none) : DiskIs w1 B' q v D := by
  obtain ⟨rows, hr, hR⟩ := h.row
  have hty := own_type hR.1 (t := 69) (by decide)
  exact h.keep m (fun e => by subst e; exact blk_type h.blk hs (by decide)) (by simp) (fun k hk => ⟨fun e => by subst e; exact hty k hk _ _ hs, by simp⟩) hs.noU (by simp)
/-- the store is written anew -/
theorem Aft.put (a : Aft B gs w w1 p v S D1 v1) (hB : B ≤ gs) (hm : Moved w1 w2 gs none) (hs : StIs w2 gs p S2) : Aft B gs w w2 p v S2 D1 v1 := by
  have hty : ∀ (k : Nat) cs t fz, k ≠ gs → w1.heap[k]? = some (.cells cs t fz) → w2.heap[k]? = w1.heap[k]? := fun k cs t fz ht hh => hm.block k (Array.getElem?_eq_some_iff.1 hh).1 ht (by simp)
  have hst := a.st
  refine ⟨a.is.store hst hm, hs, a.below.trans (hm.below hB (by simp) a.lt), fun x s h => (a.bt x s h).moved hm hst.noU (by simp), fun g cs t fz h0 h1 h2 hh => ?_, fun B' p' v' D2 h2 ha => ?_⟩
  · have e := a.blk g cs t fz h0 h1 h2 hh
    exact (hty g cs t fz h0 (e.trans hh)).trans e
  · obtain ⟨x, y⟩ := a.other B' p' v' D2 h2 ha
    exact ⟨x.store hst hm, y⟩
theorem btr_raw {s : ByteArray} {g : Nat} {t : TypeId} (h : Blk w g t (ucells s).toArray) : BtR w (.slice (some ⟨g, 0, none⟩) s.size s.size) s := by
  refine ⟨_, _, rfl, Nat.le_refl _, by rw [ucells_length, Nat.mul_one], fun _ => ⟨_, rfl, Blk.lt h, fun j u hu => ?_⟩⟩
  rw [addr_add, Nat.zero_add, Blk.cell h, List.getElem?_toArray]
  exact hu
end
/-- the state within Write: the manifest's own place, its bytes -/
structure WS (B gs : Nat) (w wk : World) (p : Nat) (v : Value) (S : StD) (D1 : DiskD) (v1 : Value) (m : ManM) (g : Nat) : Prop where
  aft : Aft B gs w wk p v S D1 v1
  loc : Blk wk w.heap.size 38 (mCells m)
  raw : Blk wk g 111 (ucells m.bytes).toArray
section
variable {B gs p g : Nat} {w w1 w2 : World} {v v1 v2 : Value} {S S1 S2 : StD} {D D1 D2 : DiskD} {m : ManM}
theorem WS.out (a : WS B gs w w1 p v S D1 v1 m g) (o : Out B w1 w2 p v1 D2 v2) : WS B gs w w2 p v S D2 v2 m g :=
  ⟨a.aft.out o, o.keep_blk a.loc (by decide) (by decide), o.keep_blk a.raw (by decide) (by decide)⟩
theorem WS.below_ (a : WS B gs w w1 p v S D1 v1 m g) (hb : Below w1.heap.size w1 w2) : WS B gs w w2 p v S D1 v1 m g :=
  ⟨a.aft.below_ hb, Blk.below a.loc hb a.loc.lt, Blk.below a.raw hb a.raw.lt⟩
end
def zCells (p : Nat) (m : ManM) (b : Bool) : Array Value := #[.pointer (some ⟨p, 0, none⟩), .int .i64 m.n, .int .i64 m.epoch, .int .i64 m.step, .int .i64 m.sum, .int .i64 m.most, .bool m.done, .int .u32 m.job, .bool b]
theorem lay_store (p : Nat) (S : StD) (m : ManM) : layS (sCells p S) 1 [.int .i64 m.n, .int .i64 m.epoch, .int .i64 m.step, .int .i64 m.sum, .int .i64 m.most, .bool m.done, .int .u32 m.job] = zCells p m S.some := by
  simp [layS, sCells, zCells]
section
variable {gs p : Nat} {w : World} {S : StD}
theorem st_there (h : StIs w gs p S) : w.there gs 1 7 := by
  intro j hj
  refine ⟨?_, Blk.frozen h _⟩
  rw [Blk.cell h]
  have : (sCells p S).size = 9 := rfl
  rw [Array.getElem?_eq_getElem (by omega)]
  rfl
theorem st_lay (h : StIs w gs p S) (m : ManM) : Moved w (w.setCells gs 1 [.int .i64 m.n, .int .i64 m.epoch, .int .i64 m.step, .int .i64 m.sum, .int .i64 m.most, .bool m.done, .int .u32 m.job]) gs none ∧
    Blk (w.setCells gs 1 [.int .i64 m.n, .int .i64 m.epoch, .int .i64 m.step, .int .i64 m.sum, .int .i64 m.most, .bool m.done, .int .u32 m.job]) gs 69 (zCells p m S.some) :=
  ⟨Moved.setCells gs _ 1 w, by rw [← lay_store]; exact Blk.setCells _ 1 h⟩
theorem st_flag {m : ManM} {b : Bool} (h : Blk w gs 69 (zCells p m b)) : StIs (w.setCell ⟨gs, 8, none⟩ (.bool true)) gs p ⟨m, true⟩ := by
  have h2 := h.set_ 8 (.bool true)
  have e : (zCells p m b).setIfInBounds 8 (.bool true) = sCells p ⟨m, true⟩ := by simp [zCells, sCells]
  rw [e] at h2
  exact h2
theorem z_cell {m : ManM} {b : Bool} (h : Blk w gs 69 (zCells p m b)) : w.cell? ⟨gs, 8, none⟩ = some (.bool b) ∧ w.frozen? ⟨gs, 8, none⟩ = false :=
  ⟨h.cell 8, h.frozen 8⟩
end
theorem wpList_store_midz {P : Program} {ops : Array Oper} {rest : List Oper} {op : Oper} {a : Act} {w : World} {Q : Exit → Act → World → Prop} (hgd : op.guard = none) (ty : TypeId) (x y : Operand) (ho : op.op = .store ty x y)
    (b o : Nat) (cells : Array Value) (hx : a.eval x = .pointer (some ⟨b, o, none⟩)) (hy : a.eval y = .agg cells)
    (ht : w.there b o cells.size) (hi : (P.info? ty).map (·.size) = some cells.size) (h1 : cells.all (·.oneCell') = true) (wz : World) (hz : w.setCells b o cells.toList = wz)
    (h : wpList P ops Q rest (a.put op.dst undef) wz) : wpList P ops Q (op :: rest) a w :=
  wpList_store_mid hgd ty x y ho b o cells hx hy ht hi h1 (by rw [hz]; exact h)
/-- the older one is put aside -/
def WCut (B gs : Nat) (w : World) (p : Nat) (v : Value) (S : StD) (D1 : DiskD) (v1 : Value) (m : ManM) (g go : Nat) (s7 : Value) (wx : World) : Prop :=
  s7 = .pointer (some ⟨go, 0, none⟩) ∧ WS B gs w wx p v S D1 v1 m g ∧ Blk wx go 38 (mCells S.m)
/-- how Write ends -/
def WriteP (B gs : Nat) (w : World) (p : Nat) (v : Value) (D : DiskD) (S : StD) (m : ManM) (e : Ending) (w' : World) : Prop :=
  e = .returned (.int .i64 (writeD D S m).1) ∧ ∃ v1, Aft B gs w w' p v (writeD D S m).2.2 (writeD D S m).2.1 v1
/-- at the label: an error, and what it leaves -/
def WOut (B gs : Nat) (w : World) (p : Nat) (v : Value) (D : DiskD) (S : StD) (m : ManM) (E : Int) (w' : World) : Prop :=
  E ≠ 0 ∧ ∃ D1 v1, writeD D S m = outD E D1 S ∧ Aft B gs w w' p v S D1 v1 ∧ FitN D1 1
theorem wout_end {B gs : Nat} {w w' : World} {p : Nat} {v : Value} {D : DiskD} {S : StD} {m : ManM} {E : Int} (h : WOut B gs w p v D S m E w') (hE : E ≠ 161) : WriteP B gs w p v D S m (.returned (.int .i64 E)) w' := by
  obtain ⟨-, D1, v1, he, ha, -⟩ := h
  unfold WriteP
  rw [he]
  unfold outD
  rw [if_neg hE]
  exact ⟨rfl, v1, ha⟩
/-- a state at the label -/
def WJ (B gs : Nat) (w : World) (p : Nat) (v : Value) (D : DiskD) (S : StD) (m : ManM) (a' : Act) (w' : World) : Prop :=
  ∃ E : Int, ∃ u1 u2 u3 u5 u6 u7 u8 u9 u10 u11 u12 u13 u14 u15 u16 u17 u18 u19 u20 u21 u22 u23 u24 u25 u26 u27 u28 u29 u30 u31 u32 u33 u34 u35 u36 u37 u38 u39 u40 u41 u42 u43 u44 u45 u46 u47 u48 u49 u50 u51 u52 u53 u54 u55 u56 u57 u58 u59 u60 u61 u62 u63 u64 u65 u66 u67 u68 u69 u70 u71 u72 u73 u74 u75 u76 u77 u78 u79 u80 u81 u82 u83 : Value, a' = ⟨#[.pointer (some ⟨gs, 0, none⟩), u1, u2, u3, .int .i64 E, u5, u6, u7, u8, u9, u10, u11, u12, u13, u14, u15, u16, u17, u18, u19, u20, u21, u22, u23, u24, u25, u26, u27, u28, u29, u30, u31, u32, u33, u34, u35, u36, u37, u38, u39, u40, u41, u42, u43, u44, u45, u46, u47, u48, u49, u50, u51, u52, u53, u54, u55, u56, u57, u58, u59, u60, u61, u62, u63, u64, u65, u66, u67, u68, u69, u70, u71, u72, u73, u74, u75, u76, u77, u78, u79, u80, u81, u82, u83], []⟩ ∧ WOut B gs w p v D S m E w'
section
variable (w : World) (B p gs : Nat) (v : Value) (D : DiskD) (S : StD) (m : ManM) (h : DiskIs w B p v D) (hB : B ≤ gs) (hs : StIs w gs p S)
include h hB hs
set_option maxRecDepth 100000 in
set_option maxHeartbeats 16000000 in
theorem write_any (hf : FitN D 6) (hT : Tb B w) (hm : m.Ok) (hS : 0 ≤ S.m.n ∧ S.m.n ≤ 4611686018427387904) :
    Calls Tryz.prog 22 #[.pointer (some ⟨gs, 0, none⟩), .agg (mCells m)] w (WriteP B gs w p v D S m) := by
  obtain ⟨hS0, hS1⟩ := hS
  have hmn : (nextM S m).Ok := ⟨⟨by show _ ≤ S.m.n + 1; omega, by show S.m.n + 1 ≤ _; omega⟩, hm.epoch, hm.step, hm.sum, hm.most, hm.job⟩
  have hlt := Blk.lt hs
  have hBw : B ≤ w.heap.size := by omega
  have hcw : IntKind.i64.wrap (S.m.n + 1) = S.m.n + 1 := IntWalk.i64_in _ (by omega)
  have hsA := hs.below ((Below.refl w.heap.size w).alloc (Nat.le_refl _) (.cells (mCells m) 38))
  have a1 := hsA.cell 1
  simp only [sCells, List.getElem?_toArray, List.getElem?_cons_zero, List.getElem?_cons_succ] at a1
  have hne : gs ≠ w.heap.size := by omega
  have h1 : mCells (nextM S m) = #[.int .i64 (S.m.n + 1), .int .i64 m.epoch, .int .i64 m.step, .int .i64 m.sum, .int .i64 m.most, .bool m.done, .int .u32 m.job] := rfl
  have hb1 := (Below.refl w.heap.size w).alloc (Nat.le_refl _) (.cells (mCells (nextM S m)) 38)
  have hk1 := Blk.new w 38 (mCells (nextM S m))
  have hA1 := (Aft.start h hs).below_ hb1
  rw [h1] at hk1 hA1 hb1
  have HA1 := Lib.hid hA1; have HK1 := Lib.hid hk1; have HS := Lib.hid hs; have HF := Lib.hid hf; have HT := Lib.hid hT; have HMN := Lib.hid hmn; have H1 := Lib.hid h1; have HBW := Lib.hid hb1
  clear h hs hsA hA1 hk1 hf hT hm hmn h1 hb1
  unfold mCells at a1 ⊢
  go_enter Tryz.func22, Tryz.ntmps22
  go_wp2_with fail
  refine' wp_scope_jumps (rest := _) 0 (WJ B gs w p v D S m) (fun _ _ => 0) ?hf ?first ?pass
  case hf => rfl
  case' first => skip
  · go_wp2_with fail
    cases hmay : (nextM S m).may with
    | false =>
      have hc := mPut_no (nextM S m) hmay
      rw [H1.out] at hc
      have hwd : writeD D S m = (2, D, S) := by unfold writeD; rw [if_pos hmay]
      have HWD := Lib.hid hwd; have HC := Lib.hid hc
      clear hc hwd hmay
      refine (HC.out _).mono ?_
      rintro e w2 ⟨rfl, hb⟩
      have HA2 := Lib.hid (HA1.out.below_ hb)
      clear hb
      go_wp2
      go_ret
      exact ⟨by rw [HWD.out]; rfl, v, by rw [HWD.out]; exact HA2.out⟩
    | true =>
      have hc := mPut_yes (nextM S m) HMN.out hmay
      rw [H1.out] at hc
      have hwd : writeD D S m = writeD D S m := rfl
      conv at hwd => rhs; unfold writeD; rw [if_neg (by simp [hmay])]
      have HWD := Lib.hid hwd; have HC := Lib.hid hc
      clear hc hwd hmay
      refine (HC.out _).mono ?_
      rintro e w2 ⟨g, rfl, hg, hgr, hb⟩
      have hs2 : WS B gs w w2 p v S D v (nextM S m) g := ⟨HA1.out.below_ hb, by rw [H1.out]; exact HK1.out.below hb HK1.out.lt, hgr⟩
      have hcl := clear_any w2 B p gs v D S hs2.aft.is hs2.aft.lt hs2.aft.st (HF.out.less (by decide))
      have hf2 : FitN (clearD D).2 5 := HF.out.clear
      obtain ⟨E1, hE1⟩ : ∃ E1, (clearD D).1 = E1 := ⟨_, rfl⟩
      obtain ⟨D1, hD1⟩ : ∃ D1, (clearD D).2 = D1 := ⟨_, rfl⟩
      have HWD := HWD.out
      rw [hE1, hD1] at HWD hcl
      rw [hD1] at hf2
      have HWD := Lib.hid HWD; have HS2 := Lib.hid hs2; have HCL := Lib.hid hcl; have HF1 := Lib.hid hf2
      clear hE1 hD1 hs2 hcl hf2 hgr hb hg HC HK1 HA1 HF
      go_wp2_with fail
      refine HCL.out.mono ?_
      rintro e w3 ⟨rfl, v3, o3⟩
      have HS3 := Lib.hid (HS2.out.out o3)
      clear o3 HCL HS2
      by_cases hE : E1 = 0
      case neg =>
        have hwd := HWD.out
        rw [if_pos hE] at hwd
        have hw : WOut B gs w p v D S m E1 w3 := ⟨hE, D1, v3, hwd, HS3.out.aft, HF1.out.less (by decide)⟩
        have HW := Lib.hid hw
        have hEb : (E1 != 0) = true := by simpa using hE
        clear hw hwd hE HS3 HWD
        go_wp2
        go_step3
        exact ⟨rfl, E1, _, _, _, _, _, _, _, _, _, _, _, _, _, _, _, _, _, _, _, _, _, _, _, _, _, _, _, _, _, _, _, _, _, _, _, _, _, _, _, _, _, _, _, _, _, _, _, _, _, _, _, _, _, _, _, _, _, _, _, _, _, _, _, _, _, _, _, _, _, _, _, _, _, _, _, _, _, _, _, _, _, _, rfl, HW.out⟩
      subst hE
      have hwd := HWD.out
      rw [if_neg (by simp)] at hwd
      have hs3 := HS3.out
      have c0 := hs3.aft.st.cell 0
      simp only [sCells, List.getElem?_toArray, List.getElem?_cons_zero] at c0
      have hu : D1.used ≤ 1000000000000 := by have := HF1.out.used; omega
      have hbt : BtR w3 (.slice (some ⟨g, 0, none⟩) 50 50) (nextM S m).bytes := by
        have := btr_raw hs3.raw
        rwa [(nextM S m).bytes_size] at this
      have hap := d_append hs3.aft.is hs3.aft.lt HF1.out.fit hu (name := tmpN) hbt (by rw [(nextM S m).bytes_size]; decide) (E := (D1.append tmpN (nextM S m).bytes).1) (D' := (D1.append tmpN (nextM S m).bytes).2) rfl
      have hf2 : FitN (D1.append tmpN (nextM S m).bytes).2 4 := HF1.out.append _ _ (by rw [(nextM S m).bytes_size]; decide)
      obtain ⟨E2, hE2⟩ : ∃ E2, (D1.append tmpN (nextM S m).bytes).1 = E2 := ⟨_, rfl⟩
      obtain ⟨D2, hD2⟩ : ∃ D2, (D1.append tmpN (nextM S m).bytes).2 = D2 := ⟨_, rfl⟩
      rw [hE2, hD2] at hwd hap
      rw [hD2] at hf2
      rw [show tmpN = ⟨#[109, 102, 46, 116, 109, 112]⟩ from rfl] at hap
      have HWD := Lib.hid hwd; have HAP := Lib.hid hap; have HF2 := Lib.hid hf2
      clear hE2 hD2 hwd hap hf2 hbt hu hs3 HF1
      go_wp2_with fail
      refine HAP.out.mono ?_
      rintro e w4 ⟨rfl, v4, o4⟩
      have HS4 := Lib.hid (HS3.out.out o4)
      clear o4 HAP HS3 c0
      by_cases hE : E2 = 0
      case neg =>
        have hwd := HWD.out
        rw [if_pos hE] at hwd
        have hw : WOut B gs w p v D S m E2 w4 := ⟨hE, D2, v4, hwd, HS4.out.aft, HF2.out.less (by decide)⟩
        have HW := Lib.hid hw
        have hEb : (E2 != 0) = true := by simpa using hE
        clear hw hwd hE HS4 HWD
        go_wp2
        go_step3
        exact ⟨rfl, E2, _, _, _, _, _, _, _, _, _, _, _, _, _, _, _, _, _, _, _, _, _, _, _, _, _, _, _, _, _, _, _, _, _, _, _, _, _, _, _, _, _, _, _, _, _, _, _, _, _, _, _, _, _, _, _, _, _, _, _, _, _, _, _, _, _, _, _, _, _, _, _, _, _, _, _, _, _, _, _, _, _, _, rfl, HW.out⟩
      subst hE
      have hwd := HWD.out
      rw [if_neg (by simp)] at hwd
      have hs4 := HS4.out
      have c0 := hs4.aft.st.cell 0
      simp only [sCells, List.getElem?_toArray, List.getElem?_cons_zero] at c0
      have hap := d_sync hs4.aft.is hs4.aft.lt HF2.out.fit (name := tmpN) (E := (D2.step 0 tmpN tmpN 0 true).1) (D' := (D2.step 0 tmpN tmpN 0 true).2) rfl
      have hf2 : FitN (D2.step 0 tmpN tmpN 0 true).2 3 := HF2.out.step _ _ _ _ _
      obtain ⟨E3, hE3⟩ : ∃ E3, (D2.step 0 tmpN tmpN 0 true).1 = E3 := ⟨_, rfl⟩
      obtain ⟨D3, hD3⟩ : ∃ D3, (D2.step 0 tmpN tmpN 0 true).2 = D3 := ⟨_, rfl⟩
      rw [hE3, hD3] at hwd hap
      rw [hD3] at hf2
      rw [show tmpN = ⟨#[109, 102, 46, 116, 109, 112]⟩ from rfl] at hap
      have HWD := Lib.hid hwd; have HAP := Lib.hid hap; have HF3 := Lib.hid hf2
      clear hE3 hD3 hwd hap hf2 hs4 HF2
      go_wp2_with fail
      refine HAP.out.mono ?_
      rintro e w5 ⟨rfl, v5, o5⟩
      have HS5 := Lib.hid (HS4.out.out o5)
      clear o5 HAP HS4 c0
      by_cases hE : E3 = 0
      case neg =>
        have hwd := HWD.out
        rw [if_pos hE] at hwd
        have hw : WOut B gs w p v D S m E3 w5 := ⟨hE, D3, v5, hwd, HS5.out.aft, HF3.out.less (by decide)⟩
        have HW := Lib.hid hw
        have hEb : (E3 != 0) = true := by simpa using hE
        clear hw hwd hE HS5 HWD
        go_wp2
        go_step3
        exact ⟨rfl, E3, _, _, _, _, _, _, _, _, _, _, _, _, _, _, _, _, _, _, _, _, _, _, _, _, _, _, _, _, _, _, _, _, _, _, _, _, _, _, _, _, _, _, _, _, _, _, _, _, _, _, _, _, _, _, _, _, _, _, _, _, _, _, _, _, _, _, _, _, _, _, _, _, _, _, _, _, _, _, _, _, _, _, rfl, HW.out⟩
      subst hE
      have hwd := HWD.out
      rw [if_neg (by simp)] at hwd
      have hs5 := HS5.out
      have c0 := hs5.aft.st.cell 0
      have l0 := hs5.loc.cell 0
      rw [H1.out] at l0
      simp only [sCells, List.getElem?_toArray, List.getElem?_cons_zero] at c0 l0
      have gl := Blk.lt hs5.aft.st; have ll := hs5.loc.lt
      have hnm := name_any w5.drew B (HT.out.on (hs5.aft.below.drew)) (S.m.n + 1) HMN.out.n
      have hren : ∀ w6, Below w5.heap.size w5 w6 → Calls Tryz.prog 55 #[.pointer (some ⟨p, 0, none⟩), .string ⟨#[109, 102, 46, 116, 109, 112]⟩, .string (nameM (S.m.n + 1))] w6 fun e w' => e = .returned (.int .i64 (D3.step 2 tmpN (nameM (S.m.n + 1)) 0 true).1) ∧ ∃ v1, WS B gs w w' p v S (D3.step 2 tmpN (nameM (S.m.n + 1)) 0 true).2 v1 (nextM S m) g := fun w6 hb => by
        have hs6 := hs5.below_ hb
        exact (d_rename hs6.aft.is hs6.aft.lt HF3.out.fit (name := tmpN) (dst := nameM (S.m.n + 1)) rfl).mono fun e w' ⟨he, v1, o⟩ => ⟨he, v1, hs6.out o⟩
      have hf2 : FitN (D3.step 2 tmpN (nameM (S.m.n + 1)) 0 true).2 2 := HF3.out.step _ _ _ _ _
      rw [show (nextM S m).n = S.m.n + 1 from rfl] at hwd
      obtain ⟨E4, hE4⟩ : ∃ E4, (D3.step 2 tmpN (nameM (S.m.n + 1)) 0 true).1 = E4 := ⟨_, rfl⟩
      obtain ⟨D4, hD4⟩ : ∃ D4, (D3.step 2 tmpN (nameM (S.m.n + 1)) 0 true).2 = D4 := ⟨_, rfl⟩
      rw [hE4, hD4] at hwd hren
      rw [hD4] at hf2
      have HWD := Lib.hid hwd; have HREN := Lib.hid hren; have HF4 := Lib.hid hf2; have HNM := Lib.hid hnm; have HC0 := Lib.hid c0; have HL0 := Lib.hid l0; have HGL := Lib.hid gl; have HLL := Lib.hid ll
      clear hE4 hD4 hwd hren hf2 hs5 HF3 hnm gl ll
      go_wp2_with fail
      go_region_held3 (fun w' => w'.cell? ⟨gs, 0, none⟩ = some (.pointer (some ⟨p, 0, none⟩)) ∧ w'.cell? ⟨w.heap.size, 0, none⟩ = some (.int .i64 (S.m.n + 1))) (go_keep) (first | (go_at_call 33; (with_reducible refine HNM.out.mono ?_); rintro e w6 ⟨rfl, hb6⟩; have k1 := (hb6.cell (p := ⟨gs, 0, none⟩) HGL.out).trans HC0.out; have k2 := (hb6.cell (p := ⟨w.heap.size, 0, none⟩) HLL.out).trans HL0.out; have HB6 := Lib.hid (show Below w5.heap.size w5 w6 from undrew hb6); clear hb6) | (go_at_call 55; (with_reducible refine (HREN.out _ HB6.out).mono ?_); rintro e w7 ⟨rfl, v7, hs7⟩; have HS7 := Lib.hid hs7; have k3 : w7.cell? ⟨gs, 0, none⟩ = some (.pointer (some ⟨p, 0, none⟩)) := hs7.aft.st.cell 0; have k4 : w7.cell? ⟨w.heap.size, 0, none⟩ = some (.int .i64 (S.m.n + 1)) := hs7.loc.cell 0; clear hs7))
      have hwd := HWD.out
      by_cases hE : E4 = 0
      case neg =>
        rw [if_pos hE] at hwd
        have hw : WOut B gs w p v D S m E4 w7 := ⟨hE, D4, v7, hwd, HS7.out.aft, HF4.out.less (by decide)⟩
        have HW := Lib.hid hw
        have hEb : (E4 == 0) = false := by simpa using hE
        clear hw hwd hE HS7 HWD HC0 HL0 k1 k2
        go_wp2
        go_step3
        by_cases h161 : E4 = 161
        case neg =>
          have HQ := Lib.hid (wout_end HW.out h161)
          have hEb : (E4 == 161) = false := by simpa using h161
          clear HW h161
          go_wp2
          go_ret
          exact HQ.out
        subst h161
        obtain ⟨-, Dx, vx, hwx, ax, fx⟩ := HW.out
        have hcl := clear_any _ B p gs vx Dx S ax.is ax.lt ax.st fx
        have HCLX := Lib.hid hcl; have HAX := Lib.hid ax; have HWX := Lib.hid hwx
        clear hcl ax hwx fx HW
        go_wp2_with fail
        refine HCLX.out.mono ?_
        rintro e wy ⟨rfl, vy, oy⟩
        have HAY := Lib.hid (HAX.out.out oy)
        clear oy HCLX HAX
        go_wp2
        go_ret
        exact ⟨by rw [HWX.out]; unfold outD; rw [if_pos rfl]; rfl, vy, by rw [HWX.out]; unfold outD; rw [if_pos rfl]; exact HAY.out⟩
      subst hE
      rw [if_neg (by simp)] at hwd
      have hs7 := HS7.out
      have c1 := hs7.aft.st.cell 1; have c2 := hs7.aft.st.cell 2; have c3 := hs7.aft.st.cell 3; have c4 := hs7.aft.st.cell 4; have c5 := hs7.aft.st.cell 5; have c6 := hs7.aft.st.cell 6; have c7 := hs7.aft.st.cell 7; have c8 := hs7.aft.st.cell 8
      simp only [sCells, List.getElem?_toArray, List.getElem?_cons_zero, List.getElem?_cons_succ] at c1 c2 c3 c4 c5 c6 c7 c8
      have HWD := Lib.hid hwd
      have hb8 := ((Below.refl w7.heap.size w7).alloc (Nat.le_refl _) (.cells (mCells S.m) 38)).drew
      have hs8 := hs7.below_ hb8
      have ho8 := (Blk.new w7 38 (mCells S.m)).drew
      have hl7 := Blk.lt HS7.out.aft.st; have hm7 := Blk.lt HS7.out.loc
      have HS8 := Lib.hid hs8; have HO8 := Lib.hid ho8
      clear hwd hs7 k1 k2 HC0 HL0 hs8 ho8 hb8 HS7
      go_upto_region 15 with (fail)
      go_cut [0, 3, 4, 6, 7] (fun s0 s3 s4 s6 s7 wx => s0 = .pointer (some ⟨gs, 0, none⟩) ∧ s3 = .pointer (some ⟨w.heap.size, 0, none⟩) ∧ s4 = .int .i64 0 ∧ s6 = .bool S.some ∧ WCut B gs w p v S D4 v7 (nextM S m) g w7.heap.size s7 wx)
      case first =>
        go_region_held3 (fun w' => w'.cell? ⟨gs, 1, none⟩ = some (.int .i64 S.m.n) ∧ w'.cell? ⟨gs, 2, none⟩ = some (.int .i64 S.m.epoch) ∧ w'.cell? ⟨gs, 3, none⟩ = some (.int .i64 S.m.step) ∧ w'.cell? ⟨gs, 4, none⟩ = some (.int .i64 S.m.sum) ∧ w'.cell? ⟨gs, 5, none⟩ = some (.int .i64 S.m.most) ∧ w'.cell? ⟨gs, 6, none⟩ = some (.bool S.m.done) ∧ w'.cell? ⟨gs, 7, none⟩ = some (.int .u32 S.m.job) ∧ w'.cell? ⟨gs, 8, none⟩ = some (.bool S.some)) (go_keep) (fail)
        go_wp2_with fail
        go_meet
        exact ⟨rfl, rfl, rfl, rfl, rfl, HS8.out, HO8.out⟩
      case rest =>
      clear c1 c2 c3 c4 c5 c6 c7 c8 HS8 HO8
      obtain ⟨rfl, rfl, rfl, rfl, hcc⟩ := hcut
      obtain ⟨rfl, hs8, ho8⟩ := hcc
      obtain ⟨w8, hw8⟩ : ∃ w8, w8 = wc := ⟨_, rfl⟩
      subst hw8
      have hl8 := hs8.loc
      rw [H1.out] at hl8
      have hth := st_there hs8.aft.st
      obtain ⟨hmz, hkz⟩ := st_lay hs8.aft.st (nextM S m)
      obtain ⟨wz, hz⟩ : ∃ wz, w8.setCells gs 1 (#[.int .i64 (S.m.n + 1), .int .i64 m.epoch, .int .i64 m.step, .int .i64 m.sum, .int .i64 m.most, .bool m.done, .int .u32 m.job] : Array Value).toList = wz := ⟨_, rfl⟩
      have hmz : Moved w8 wz gs none := by rw [← hz]; exact hmz
      have hkz : Blk wz gs 69 (zCells p (nextM S m) S.some) := by rw [← hz]; exact hkz
      obtain ⟨z8, fz8⟩ := z_cell hkz
      have hone := mCells_oneA (nextM S m)
      rw [H1.out] at hone
      have HONE := Lib.hid hone
      clear hone
      have hst9 := st_flag hkz
      have hmv := hmz.trans (Moved.set_ wz gs 8 none (.bool true)) (.inl rfl)
      have hgo : gs ≠ w7.heap.size := by omega
      have ha9 := hs8.aft.put hB hmv hst9
      have ho9 := moved_blk ho8 hmv (Ne.symm hgo) (by simp)
      have HA9 := Lib.hid ha9; have HO9 := Lib.hid ho9; have HL8 := Lib.hid hl8; have HTH := Lib.hid hth; have HZ := Lib.hid hz
      clear hmz hkz hst9 hmv ha9 ho9 hl8 hth hs8 ho8 hz
      iterate 10 (first | (refine wpList_load_row rfl 38 (.tmp 3) (by rfl) w.heap.size (by rfl) 38 #[.int .i64 (S.m.n + 1), .int .i64 m.epoch, .int .i64 m.step, .int .i64 m.sum, .int .i64 m.most, .bool m.done, .int .u32 m.job] (0, 0) _ HL8.out Tryz.underlying38 rfl infoMf ?_) | go_step | go_upon | skip)
      iterate 6 (first | go_step | go_upon | skip)
      refine wpList_store_midz rfl 38 (.tmp 66) (.tmp 64) (by rfl) gs 1 #[.int .i64 (S.m.n + 1), .int .i64 m.epoch, .int .i64 m.step, .int .i64 m.sum, .int .i64 m.most, .bool m.done, .int .u32 m.job] (by rfl) (by rfl) HTH.out infoMf HONE.out wz HZ.out ?_
      clear HTH HZ HL8 HONE
      go_upto_region 17 with (fail)
      clear z8 fz8
      obtain ⟨w9, hw9⟩ : ∃ w9, wz.setCell ⟨gs, 8, none⟩ (.bool true) = w9 := ⟨_, rfl⟩
      rw [hw9] at HA9 HO9 ⊢
      clear hw9
      have hwd := HWD.out
      cases hsm : S.some with
      | false =>
        rw [if_neg (by simp [hsm])] at hwd
        have HWD2 := Lib.hid hwd
        clear hwd HWD HO9 hsm
        go_wp2
        go_ret
        exact ⟨by rw [HWD2.out]; rfl, v7, by rw [HWD2.out]; exact HA9.out⟩
      | true =>
        rw [if_pos hsm] at hwd
        have ha9 := HA9.out
        have c0 := ha9.st.cell 0
        have l0 := HO9.out.cell 0
        simp only [sCells, mCells, List.getElem?_toArray, List.getElem?_cons_zero] at c0 l0
        have gl := Blk.lt ha9.st; have ll := HO9.out.lt
        have hnm := name_any w9.drew B (HT.out.on (ha9.below.drew)) S.m.n ⟨by omega, by omega⟩
        have hren : ∀ w6, Below w9.heap.size w9 w6 → Calls Tryz.prog 34 #[.pointer (some ⟨p, 0, none⟩), .string (nameM S.m.n)] w6 fun e w' => e = .returned (.int .i64 (D4.step 3 (nameM S.m.n) (nameM S.m.n) 0 true).1) ∧ ∃ v1, Aft B gs w w' p v ⟨nextM S m, true⟩ (D4.step 3 (nameM S.m.n) (nameM S.m.n) 0 true).2 v1 ∧ w'.cell? ⟨w7.heap.size, 0, none⟩ = some (.int .i64 S.m.n) := fun w6 hb => by
          have hs6 := ha9.below_ hb
          have ho6 := HO9.out.below hb HO9.out.lt
          exact (d_remove hs6.is hs6.lt HF4.out.fit (name := nameM S.m.n) rfl).mono fun e w' ⟨he, v1, o⟩ => ⟨he, v1, hs6.out o, (o.keep_blk ho6 (by decide) (by decide)).cell 0⟩
        obtain ⟨E5, hE5⟩ : ∃ E5, (D4.step 3 (nameM S.m.n) (nameM S.m.n) 0 true).1 = E5 := ⟨_, rfl⟩
        obtain ⟨D5, hD5⟩ : ∃ D5, (D4.step 3 (nameM S.m.n) (nameM S.m.n) 0 true).2 = D5 := ⟨_, rfl⟩
        rw [hE5, hD5] at hwd hren
        have HWD2 := Lib.hid hwd; have HREN2 := Lib.hid hren; have HNM2 := Lib.hid hnm; have HC0 := Lib.hid c0; have HL0 := Lib.hid l0; have HGL2 := Lib.hid gl; have HLL2 := Lib.hid ll
        clear hE5 hD5 hwd hren ha9 hnm gl ll HWD hsm HREN HNM HGL HLL HO9
        go_wp2_with fail
        go_region_held3 (fun w' => w'.cell? ⟨gs, 0, none⟩ = some (.pointer (some ⟨p, 0, none⟩)) ∧ w'.cell? ⟨w7.heap.size, 0, none⟩ = some (.int .i64 S.m.n)) (go_keep) (first | (go_at_call 33; (with_reducible refine HNM2.out.mono ?_); rintro e w10 ⟨rfl, hb10⟩; have k1 := (hb10.cell (p := ⟨gs, 0, none⟩) HGL2.out).trans HC0.out; have k2 := (hb10.cell (p := ⟨w7.heap.size, 0, none⟩) HLL2.out).trans HL0.out; have HB10 := Lib.hid (show Below w9.heap.size w9 w10 from undrew hb10); clear hb10) | (go_at_call 34; (with_reducible refine (HREN2.out _ HB10.out).mono ?_); rintro e w11 ⟨rfl, v11, hs11, k4⟩; have HS11 := Lib.hid hs11; have k3 : w11.cell? ⟨gs, 0, none⟩ = some (.pointer (some ⟨p, 0, none⟩)) := hs11.st.cell 0; clear hs11))
        go_wp2
        go_ret
        exact ⟨by rw [HWD2.out]; rfl, v11, by rw [HWD2.out]; exact HS11.out⟩
  · rintro a' w' hw
    obtain ⟨E, u1, u2, u3, u5, u6, u7, u8, u9, u10, u11, u12, u13, u14, u15, u16, u17, u18, u19, u20, u21, u22, u23, u24, u25, u26, u27, u28, u29, u30, u31, u32, u33, u34, u35, u36, u37, u38, u39, u40, u41, u42, u43, u44, u45, u46, u47, u48, u49, u50, u51, u52, u53, u54, u55, u56, u57, u58, u59, u60, u61, u62, u63, u64, u65, u66, u67, u68, u69, u70, u71, u72, u73, u74, u75, u76, u77, u78, u79, u80, u81, u82, u83, rfl, hw⟩ := hw
    have HW := Lib.hid hw
    clear hw
    by_cases h161 : E = 161
    case neg =>
      have HQ := Lib.hid (wout_end HW.out h161)
      have hEb : (E == 161) = false := by simpa using h161
      clear HW h161
      go_wp2
      go_ret
      exact HQ.out
    subst h161
    obtain ⟨-, Dx, vx, hwx, ax, fx⟩ := HW.out
    have hcl := clear_any _ B p gs vx Dx S ax.is ax.lt ax.st fx
    have HCLX := Lib.hid hcl; have HAX := Lib.hid ax; have HWX := Lib.hid hwx
    clear hcl ax hwx fx HW
    go_wp2_with fail
    refine HCLX.out.mono ?_
    rintro e wy ⟨rfl, vy, oy⟩
    have HAY := Lib.hid (HAX.out.out oy)
    clear oy HCLX HAX
    go_wp2
    go_ret
    exact ⟨by rw [HWX.out]; unfold outD; rw [if_pos rfl]; rfl, vy, by rw [HWX.out]; unfold outD; rw [if_pos rfl]; exact HAY.out⟩
end
end Go.Proofs.YtlcgkcafelpglaaGreatDoor
