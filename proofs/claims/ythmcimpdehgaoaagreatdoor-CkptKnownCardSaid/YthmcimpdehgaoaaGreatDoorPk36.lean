/- CkptPlays: the two disks and stores side by side; the calls upon them. What the calls of a store of checkpoints cost on the disk. CkptPlays: a budget of steps, files and bytes; no file is longer than what all calls have brought. Bytes that may be written over; what calls and such writes leave of the rest. -/
import Derived.Test.YthmcimpdehgaoaaGreatDoorPk32
import Derived.Test.YthmcimpdehgaoaaGreatDoorPk34
import Derived.Test.YthmcimpdehgaoaaGreatDoorPk35
import Derived.Test.YthmcimpdehgaoaaGreatDoorCkD
import Derived.Test.YthmcimpdehgaoaaGreatDoorPk29
import Derived.Test.YthmcimpdehgaoaaGreatDoorPk27
import Derived.Test.YthmcimpdehgaoaaGreatDoorPk22
import Derived.Laws.Tables
namespace Go.Proofs.YthmcimpdehgaoaaGreatDoor
open Go.RowKit Go.Maps

/-- the two stores -/
def StoC (wr : World) (p q : Nat) (E : Int) (s t : Value) : Prop :=
  (E ≠ 0 ∧ s = .pointer none ∧ t = .pointer none) ∨ (E = 0 ∧ ∃ gs gr, s = .pointer (some ⟨gs, 0, none⟩) ∧ t = .pointer (some ⟨gr, 0, none⟩) ∧ CkSt wr gs p ∧ RcSt wr gr q)
/-- the two disks side by side -/
structure PlC (w wr : World) (p q : Nat) (v : Value) (D : DiskD) (R : RDisk) (E : Int) (s t : Value) : Prop where
  is : DiskIs wr w.heap.size p v D
  rk : RkIs wr w.heap.size q R
  below : Below w.heap.size w wr
  sto : StoC wr p q E s t
/-- calls that lie in memory stay -/
def KpX (wa wb : World) : Prop := ∀ g cs, Blk wa g 36 cs → Blk wb g 36 cs
theorem KpX.of_below {wa wb : World} (h : Below wa.heap.size wa wb) : KpX wa wb := fun _ _ hk => hk.below h hk.lt
theorem KpX.trans {wa wb wc : World} (h : KpX wa wb) (k : KpX wb wc) : KpX wa wc := fun g cs x => k g cs (h g cs x)
theorem Out.kpX {B p : Nat} {wa wb : World} {v v1 : Value} {D1 : DiskD} (o : Out B wa wb p v D1 v1) : KpX wa wb := fun _ _ hk => o.keep_blk hk (by decide) (by decide)
theorem RkOut.kpX {B p : Nat} {wa wb : World} {R R1 : RDisk} (o : RkOut B wa wb p R1) (h : RkIs wa B p R) : KpX wa wb := fun _ _ hk => o.keep_blk h hk (by decide)
section
variable {w wr w2 : World} {p q gs gr : Nat} {v v2 : Value} {D D2 : DiskD} {R R2 : RDisk} {E : Int} {s t : Value}
theorem PlC.hB (a : PlC w wr p q v D R E s t) : w.heap.size ≤ wr.heap.size := a.below.size
theorem PlC.below_ (a : PlC w wr p q v D R E s t) (hb : Below wr.heap.size wr w2) : PlC w w2 p q v D R E s t := by
  refine ⟨a.is.below hb (Nat.le_refl _), a.rk.below hb, a.below.trans (hb.mono a.hB), ?_⟩
  rcases a.sto with h | ⟨h0, gs, gr, h1, h2, h3, h4⟩
  · exact .inl h
  · exact .inr ⟨h0, gs, gr, h1, h2, h3.below hb, h4.below hb⟩
theorem PlC.out (a : PlC w wr p q v D R E s t) (o : Out w.heap.size wr w2 p v D2 v2) : PlC w w2 p q v2 D2 R E s t := by
  refine ⟨o.is, o.rk o.below.size a.rk, a.below.trans o.below, ?_⟩
  rcases a.sto with h | ⟨h0, gs, gr, h1, h2, h3, h4⟩
  · exact .inl h
  · exact .inr ⟨h0, gs, gr, h1, h2, h3.out o, o.keep_blk h4 (by decide) (by decide)⟩
theorem PlC.rout (a : PlC w wr p q v D R E s t) (o : RkOut w.heap.size wr w2 q R2) : PlC w w2 p q v D R2 E s t := by
  refine ⟨o.disk a.rk a.is, o.is, a.below.trans (o.belowB a.hB), ?_⟩
  rcases a.sto with h | ⟨h0, gs, gr, h1, h2, h3, h4⟩
  · exact .inl h
  · exact .inr ⟨h0, gs, gr, h1, h2, o.keep_blk a.rk h3 (by decide), h4.out o a.rk⟩
theorem pc_fail (a : PlC w wr p q v D R E s t) (z : Int) : Calls Tryz.prog 17 #[.pointer (some ⟨p, 0, none⟩), .int .i64 z] wr fun e w' => e = .returned (.tuple #[]) ∧ ∃ v', PlC w w' p q v' { D with left := max (-1) z } R E s t ∧ KpX wr w' :=
  (d_fail a.is a.hB z rfl).mono fun _ _ ⟨he, v', o⟩ => ⟨he, v', a.out o, o.kpX⟩
theorem pc_rfail (a : PlC w wr p q v D R E s t) (z : Int) : Calls Tryz.prog 25 #[.pointer (some ⟨q, 0, none⟩), .int .i64 z] wr fun e w' => e = .returned (.tuple #[]) ∧ PlC w w' p q v D { R with left := max (-1) z } E s t ∧ KpX wr w' :=
  (rfail_any wr _ q R a.rk z).mono fun _ _ ⟨he, o⟩ => ⟨he, a.rout o, o.kpX a.rk⟩
theorem pc_crash (a : PlC w wr p q v D R E s t) : Calls Tryz.prog 20 #[.pointer (some ⟨p, 0, none⟩)] wr fun e w' => e = .returned (.tuple #[]) ∧ ∃ v', PlC w w' p q v' { D with off := true, left := -1 } R E s t ∧ KpX wr w' :=
  (d_crash a.is a.hB rfl).mono fun _ _ ⟨he, v', o⟩ => ⟨he, v', a.out o, o.kpX⟩
theorem pc_rcrash (a : PlC w wr p q v D R E s t) : Calls Tryz.prog 26 #[.pointer (some ⟨q, 0, none⟩)] wr fun e w' => e = .returned (.tuple #[]) ∧ PlC w w' p q v D { R with gone := true, left := -1 } E s t ∧ KpX wr w' :=
  (rcrash_any wr _ q R a.rk).mono fun _ _ ⟨he, o⟩ => ⟨he, a.rout o, o.kpX a.rk⟩
theorem pc_append (a : PlC w wr p q v D R E s t) (hf : FitN D 1) {n b : ByteArray} {A : Option Addr} {c : Nat} (hb : BtR w (.slice A b.size c) b) (hs : b.size ≤ 5000) :
    Calls Tryz.prog 28 #[.pointer (some ⟨p, 0, none⟩), .string n, .slice A b.size c] wr fun e w' => ∃ E', e = .returned (.int .i64 E') ∧ ∃ v', PlC w w' p q v' (D.append n b).2 R E s t ∧ KpX wr w' :=
  (d_append a.is a.hB hf.fit (by have := hf.used; omega) (hb.below a.below) (by omega) (E := (D.append n b).1) (D' := (D.append n b).2) rfl).mono fun _ _ ⟨he, v', o⟩ => ⟨_, he, v', a.out o, o.kpX⟩
theorem pc_rappend (a : PlC w wr p q v D R E s t) (hf : RFit R) {n b : ByteArray} {A : Option Addr} {c : Nat} (hb : BtR w (.slice A b.size c) b) (hs : b.size ≤ 5000) :
    Calls Tryz.prog 29 #[.pointer (some ⟨q, 0, none⟩), .string n, .slice A b.size c] wr fun e w' => ∃ E', e = .returned (.int .i64 E') ∧ PlC w w' p q v D (R.append n b).2 E s t ∧ KpX wr w' :=
  (rappend_any wr _ q R a.rk hf n _ b (hb.below a.below) (by omega)).mono fun _ _ ⟨he, o⟩ => ⟨_, he, a.rout o, o.kpX a.rk⟩
theorem pc_cut (a : PlC w wr p q v D R E s t) (hf : FitN D 1) (n : ByteArray) (z : Int) : Calls Tryz.prog 30 #[.pointer (some ⟨p, 0, none⟩), .string n, .int .i64 z] wr fun e w' => ∃ E', e = .returned (.int .i64 E') ∧ ∃ v', PlC w w' p q v' (D.step 1 n n z false).2 R E s t ∧ KpX wr w' :=
  (d_cut a.is a.hB hf.fit (name := n) (n := z) (E := (D.step 1 n n z false).1) (D' := (D.step 1 n n z false).2) rfl).mono fun _ _ ⟨he, v', o⟩ => ⟨_, he, v', a.out o, o.kpX⟩
theorem pc_rcut (a : PlC w wr p q v D R E s t) (hf : RFit R) (n : ByteArray) (z : Int) : Calls Tryz.prog 31 #[.pointer (some ⟨q, 0, none⟩), .string n, .int .i64 z] wr fun e w' => ∃ E', e = .returned (.int .i64 E') ∧ PlC w w' p q v D (R.cut n z).2 E s t ∧ KpX wr w' :=
  (rcut_any wr _ q R a.rk hf n z).mono fun _ _ ⟨he, o⟩ => ⟨_, he, a.rout o, o.kpX a.rk⟩
theorem rd_blockC {A : Option Addr} {n : Nat} {xs : List Value} {p : Nat} (h : Rd w 1 A n xs) (hp : w.heap.size ≤ p) : 0 < n → ∀ ad, A = some ad → ad.block ≠ p := fun h0 ad he => by
  obtain ⟨ad2, he2, hb, -⟩ := h.2 h0
  rw [he] at he2
  injection he2 with he2
  subst he2
  omega
theorem pc_on (a : PlC w wr p q v D R E s t) (hsim : Sim D R) (hf : FitN D 1) {A : Option Addr} {c : Nat} {ks : List Int} (hk : Rd w 1 A ks.length (ks.map (Value.int .i64))) (hl : ks.length ≤ 5000) :
    Calls Tryz.prog 19 #[.pointer (some ⟨p, 0, none⟩), .slice A ks.length c] wr fun e w' => e = .returned (.tuple #[]) ∧ ∃ v', PlC w w' p q v' (D.on ks) R E s t ∧ KpX wr w' :=
  (d_on0 a.is a.hB hf.fit hsim.ok (hk.below a.below) (rd_blockC hk a.is.1) (by omega) rfl).mono fun _ _ ⟨he, v', o⟩ => ⟨he, v', a.out o, o.kpX⟩
theorem pc_ron (a : PlC w wr p q v D R E s t) (hso : SafeR R) (hf : RFit R) {A : Option Addr} {c : Nat} {ks : List Int} (hk : Rd w 1 A ks.length (ks.map (Value.int .i64))) (hl : ks.length ≤ 5000) :
    Calls Tryz.prog 27 #[.pointer (some ⟨q, 0, none⟩), .slice A ks.length c] wr fun e w' => e = .returned (.tuple #[]) ∧ PlC w w' p q v D (R.on ks) E s t ∧ KpX wr w' :=
  (ron_any wr _ q R a.rk hf hso A c ks (hk.below a.below) (rd_blockC hk a.rk.1) (by omega)).mono fun _ _ ⟨he, o⟩ => ⟨he, a.rout o, o.kpX a.rk⟩
/-- between the two openings -/
def HalfC (wr : World) (p : Nat) (s : Value) (D : DiskD) : Prop := ((openC D).1 ≠ 0 ∧ s = .pointer none) ∨ ((openC D).1 = 0 ∧ ∃ gs, s = .pointer (some ⟨gs, 0, none⟩) ∧ CkSt wr gs p)
def PlC0 (w wr : World) (p q : Nat) (v : Value) (D : DiskD) (R : RDisk) : Prop := PlC w wr p q v D R 1 (.pointer none) (.pointer none)
theorem PlC.zero (a : PlC w wr p q v D R E s t) : PlC0 w wr p q v D R := ⟨a.is, a.rk, a.below, .inl ⟨by decide, rfl, rfl⟩⟩
theorem pc_open (a : PlC w wr p q v D R E s t) (hf : FitN D 1) :
    Calls Tryz.prog 11 #[.pointer (some ⟨p, 0, none⟩)] wr fun e w' => ∃ s', e = .returned (.tuple #[s', .int .i64 (openC D).1]) ∧ (∃ v', PlC0 w w' p q v' (openC D).2 R) ∧ HalfC w' p s' D ∧ KpX wr w' :=
  (copen_any wr _ p v D a.is a.hB hf.fit).mono fun e w' hP => by
    obtain ⟨⟨v1, o⟩, hc⟩ := hP
    have hz := (a.out o).zero
    rcases hc with ⟨h0, he⟩ | ⟨h0, gs, he, hg, hst⟩
    · exact ⟨_, he, ⟨v1, hz⟩, .inl ⟨h0, rfl⟩, o.kpX⟩
    · exact ⟨_, by rw [h0]; exact he, ⟨v1, hz⟩, .inr ⟨h0, gs, rfl, hst⟩, o.kpX⟩
theorem pc_ropen (a : PlC0 w wr p q v D2 R) (hh : HalfC wr p s D) (hsim : Sim D R) (hf : FitN D 1) :
    Calls Tryz.prog 22 #[.pointer (some ⟨q, 0, none⟩)] wr fun e w' => ∃ t', e = .returned (.tuple #[t', .int .i64 (openC D).1]) ∧ PlC w w' p q v D2 (openRC R).2 (openC D).1 s t' ∧ KpX wr w' := by
  have hE := (sim_openC hsim).1
  refine (rcopen_any wr _ q R a.rk (sim_fit hsim hf)).mono fun e w' hP => ?_
  obtain ⟨o, hc⟩ := hP
  have hz := a.rout o
  rcases hc with ⟨h0, he⟩ | ⟨h0, gr, he, hg, hst⟩
  · refine ⟨_, by rw [hE]; exact he, ⟨hz.is, hz.rk, hz.below, ?_⟩, o.kpX a.rk⟩
    rcases hh with ⟨h1, h2⟩ | ⟨h1, _⟩
    · exact .inl ⟨h1, h2, rfl⟩
    · exact absurd (hE ▸ h1) h0
  · refine ⟨_, by rw [hE, h0]; exact he, ⟨hz.is, hz.rk, hz.below, ?_⟩, o.kpX a.rk⟩
    rcases hh with ⟨h1, _⟩ | ⟨h1, gs, h2, h3⟩
    · exact absurd (hE.trans h0) h1
    · exact .inr ⟨h1, gs, gr, h2, rfl, o.keep_blk a.rk h3 (by decide), hst⟩
end
end Go.Proofs.YthmcimpdehgaoaaGreatDoor
namespace Go.Proofs.YthmcimpdehgaoaaGreatDoor
open Go.RowKit

theorem cst_outC {D : DiskD} (h : -1 ≤ D.left) (E : Int) : Cst D (outC E D).2 1 0 0 := by
  unfold outC
  split
  · exact cst_clearC h
  · exact (Cst.refl h).mono (Nat.zero_le 1) (Nat.le_refl 0) (Nat.le_refl 0)
theorem cst_openC {D : DiskD} (h : -1 ≤ D.left) : Cst D (openC D).2 1 0 0 := by
  unfold openC
  split
  · exact (Cst.refl h).mono (Nat.zero_le 1) (Nat.le_refl 0) (Nat.le_refl 0)
  · exact cst_clearC h
theorem cst_writeC {D : DiskD} (h : -1 ≤ D.left) (step : Int) (b : ByteArray) : Cst D (writeC D step b).2 5 1 (17 + b.size) := by
  have hz := (Cst.refl h).mono (Nat.zero_le 5) (Nat.zero_le 1) (Nat.zero_le (17 + b.size))
  unfold writeC
  split
  · exact hz
  · split
    · exact hz
    · split
      · exact hz
      · have hs := fileC_size step.toNat b
        have a1 := cst_clearC h
        split
        · exact (a1.trans (cst_outC a1.l0 _)).mono (by decide) (by decide) (by omega)
        · have a2 := a1.trans (cst_append a1.l0 tmpC (fileC step.toNat b))
          rw [hs] at a2
          split
          · exact (a2.trans (cst_outC a2.l0 _)).mono (by decide) (by decide) (by omega)
          · have a3 := a2.trans (cst_step a2.l0 0 tmpC tmpC 0 true)
            split
            · exact (a3.trans (cst_outC a3.l0 _)).mono (by decide) (by decide) (by omega)
            · have a4 := a3.trans (cst_step a3.l0 2 tmpC (nameC step.toNat) 0 true)
              split
              · exact (a4.trans (cst_outC a4.l0 _)).mono (by decide) (by decide) (by omega)
              · exact a4.mono (by decide) (by decide) (by omega)
theorem cst_dropGo (below : Int) : ∀ (ns : List Nat) {D : DiskD}, -1 ≤ D.left → Cst D (dropGo below D ns).2 ns.length 0 0 := by
  intro ns
  induction ns with
  | nil => intro D h; exact Cst.refl h
  | cons n r ih =>
    intro D h
    rw [dropGo, List.length_cons]
    split
    · exact (Cst.refl h).mono (Nat.zero_le _) (Nat.le_refl _) (Nat.le_refl _)
    · have a1 := cst_step h 3 (nameC n) (nameC n) 0 true
      split
      · exact a1.mono (by omega) (Nat.le_refl _) (Nat.le_refl _)
      · exact (a1.trans (ih a1.l0)).mono (by omega) (Nat.le_refl _) (Nat.le_refl _)
theorem cst_dropC {D : DiskD} (h : -1 ≤ D.left) (below : Int) : Cst D (dropC D below).2 (allC D).length 0 0 := by
  unfold dropC
  split
  · exact (Cst.refl h).mono (Nat.zero_le _) (Nat.le_refl _) (Nat.le_refl _)
  · exact cst_dropGo below _ h
end Go.Proofs.YthmcimpdehgaoaaGreatDoor
namespace Go.Proofs.YthmcimpdehgaoaaGreatDoor
open Go.RowKit

/-- behind i rounds that have brought u bytes -/
structure BudC (D : DiskD) (i u : Nat) : Prop where
  s0 : 0 ≤ D.steps
  s1 : D.steps ≤ 400 * i
  f : D.files.length ≤ i
  u : D.used ≤ u + 17 * i
  l0 : -1 ≤ D.left
  l1 : D.left ≤ 8
theorem BudC.next {D D' : DiskD} {i u s f k b : Nat} (h : BudC D i u) (c : Cst D D' s f k) (h1 : s ≤ 400) (h2 : f ≤ 1) (h3 : k ≤ 17 + b) : BudC D' (i + 1) (u + b) :=
  ⟨by have := h.s0; have := c.s0; omega, by have := h.s1; have := c.s1; omega, by have := h.f; have := c.f; omega, by have := h.u; have := c.u; omega, c.l0, by have := h.l1; have := c.l1; omega⟩
theorem BudC.fit {D : DiskD} {i u : Nat} (h : BudC D i u) (hi : i ≤ 64) (hu : u ≤ 5000) : FitN D 1000 :=
  ⟨h.s0, by have := h.s1; omega, by have := h.f; omega, by have := h.u; omega, h.l0, by have := h.l1; omega⟩
theorem BudC.left {D : DiskD} {i u : Nat} (h : BudC D i u) (z : Int) (hz : z ≤ 8) (off : Bool) : BudC { D with left := max (-1) z, off := off } i u :=
  ⟨h.s0, h.s1, h.f, h.u, by show -1 ≤ max (-1) z; omega, by show max (-1) z ≤ 8; omega⟩
theorem BudC.less {D : DiskD} {i j u v : Nat} (h : BudC D i u) (hi : i ≤ j) (hu : u ≤ v) : BudC D j v :=
  ⟨h.s0, by have := h.s1; omega, by have := h.f; omega, by have := h.u; omega, h.l0, h.l1⟩
/-- a file that is read is no longer than all together -/
theorem read_used {D : DiskD} (t : ByteArray) : (D.read t).2.size ≤ D.used := by
  unfold DiskD.read
  split
  · exact Nat.zero_le _
  · split
    · show ((D.files.map (·.b)).getD _ ByteArray.empty).size ≤ _
      rw [List.getD_eq_getElem?_getD, List.getElem?_map]
      cases hx : D.files[(findN (D.files.map (·.name)) t).1]? with
      | none => exact Nat.zero_le _
      | some f => exact size_le_used (List.mem_of_getElem? hx)
    · exact Nat.zero_le _
theorem BudC.size {D : DiskD} {R : RDisk} {i u : Nat} (h : BudC D i u) (hsim : Sim D R) (hi : i ≤ 64) (hu : u ≤ 5000) (t : ByteArray) : (R.read t).2.size ≤ 9900 := by
  rw [← sim_read hsim t]
  have := read_used (D := D) t
  have := h.u
  omega
theorem sim_names {D : DiskD} {R : RDisk} (h : Sim D R) : ∀ f ∈ D.files, f.name.size ≤ 1000 := by
  intro f hf
  have hg := h.good f hf
  unfold badN at hg
  simp at hg
  omega
end Go.Proofs.YthmcimpdehgaoaaGreatDoor
namespace Go.Proofs.YthmcimpdehgaoaaGreatDoor
open Go.RowKit Go.Maps

theorem row_setT {W : World} {g : Nat} {C : Array Value} {t : TypeId} {fz : Nat × Nat} (i : Nat) (v : Value) (h : W.heap[g]? = some (.cells C t fz)) : (W.setCell ⟨g, i, none⟩ v).heap[g]? = some (.cells (C.setIfInBounds i v) t fz) := by
  simp [World.setCell, Array.getElem?_modify, h]
theorem row_frozenT {W : World} {g : Nat} {C : Array Value} {t : TypeId} {i : Nat} (hi : i < C.size) (h : W.heap[g]? = some (.cells C t (C.size, C.size + 1))) : W.frozen? ⟨g, i, none⟩ = false := by
  have h2 : ¬ C.size ≤ i := by omega
  simp [World.frozen?, h, h2]
/-- so many bytes that may be written over -/
def BytesW (w : World) (g n : Nat) : Prop := ∃ C : Array Value, w.heap[g]? = some (.cells C 5 (C.size, C.size + 1)) ∧ n ≤ C.size ∧ ∀ k, k < n → ∃ z : Int, 0 ≤ z ∧ z ≤ 255 ∧ C[k]? = some (.int .u8 z)
theorem BytesW.lt {w : World} {g n : Nat} (h : BytesW w g n) : g < w.heap.size := by
  obtain ⟨C, h1, _⟩ := h
  exact (Array.getElem?_eq_some_iff.1 h1).1
theorem BytesW.at_ {w : World} {g n k : Nat} (h : BytesW w g n) (hk : k < n) : ∃ z : Int, 0 ≤ z ∧ z ≤ 255 ∧ w.cell? ⟨g, k, none⟩ = some (.int .u8 z) ∧ w.frozen? ⟨g, k, none⟩ = false := by
  obtain ⟨C, h1, h2, h3⟩ := h
  obtain ⟨z, h4, h5, h6⟩ := h3 k hk
  exact ⟨z, h4, h5, by rw [cell_of_row w g k C _ _ h1, h6], row_frozenT (by omega) h1⟩
theorem BytesW.set_ {w : World} {g n k : Nat} (h : BytesW w g n) {z : Int} (h0 : 0 ≤ z) (h1 : z ≤ 255) : BytesW (w.setCell ⟨g, k, none⟩ (.int .u8 z)) g n := by
  obtain ⟨C, e1, e2, e3⟩ := h
  refine ⟨C.setIfInBounds k (.int .u8 z), ?_, by rw [Array.size_setIfInBounds]; exact e2, fun j hj => ?_⟩
  · rw [Array.size_setIfInBounds]; exact row_setT k _ e1
  · rw [Array.getElem?_setIfInBounds]
    split
    · rename_i hkj
      subst hkj
      rw [if_pos (by omega)]
      exact ⟨z, h0, h1, rfl⟩
    · exact e3 j hj
theorem BytesW.keep {w w' : World} {g n : Nat} (h : BytesW w g n) (hk : ∀ cs fz, w.heap[g]? = some (.cells cs 5 fz) → w'.heap[g]? = w.heap[g]?) : BytesW w' g n := by
  obtain ⟨C, e1, e2, e3⟩ := h
  exact ⟨C, (hk _ _ e1).trans e1, e2, e3⟩
/-- a text's bytes, made new -/
theorem text_bytes (T : ByteArray) (W : World) : ∃ (C : Array Value) (cap : Nat),
    (convert 9 33 (.string T)).run Tryz.prog W = .ok (.slice (some ⟨W.heap.size, 0, none⟩) T.size cap) (W.drew.alloc (.cells C 5 (C.size, C.size + 1))) ∧ T.size ≤ cap ∧
    ∀ W' : World, W'.heap[W.heap.size]? = some (.cells C 5 (C.size, C.size + 1)) → BytesW W' W.heap.size T.size ∧ Bt W' (.slice (some ⟨W.heap.size, 0, none⟩) T.size cap) T := by
  have hcap := grownCap_ge W T.size 0 5
  have hC : ∀ k, k < T.size → (bytesRow T (grownCap W T.size 0 5))[k]? = (T.data[k]?).map fun b => Value.int .u8 (b.toNat : Int) := fun k hk => by
    have hk' : k < T.data.size := hk
    unfold bytesRow
    rw [Array.getElem?_append_left (by simpa using hk')]
    simp
  have hsz : T.size ≤ (bytesRow T (grownCap W T.size 0 5)).size := by
    unfold bytesRow
    simp only [Array.size_append, Array.size_map]
    show T.data.size ≤ _
    omega
  obtain ⟨C, hCe⟩ : ∃ C, bytesRow T (grownCap W T.size 0 5) = C := ⟨_, rfl⟩
  have hrun := run_bytes_of_string W 9 33 5 T Tryz.underlying9 Tryz.underlying33 Tryz.underlying5
  rw [hCe] at hC hrun hsz
  refine ⟨C, grownCap W T.size 0 5, hrun, by omega, fun W' hW => ⟨⟨C, hW, hsz, fun k hk => ?_⟩, ?_⟩⟩
  · have hk' : k < T.data.size := hk
    rw [hC k hk, Array.getElem?_eq_getElem hk']
    exact ⟨_, by omega, by have := T.data[k].toNat_lt; omega, rfl⟩
  · refine ⟨_, _, rfl, by omega, fun h0 => ⟨W.heap.size, 0, C, _, rfl, hW, fun j hj => ?_⟩⟩
    have hj' : j < T.data.size := hj
    rw [Nat.zero_add, hC j hj, Array.getElem?_eq_getElem hj']
    unfold ByteArray.get!
    simp only [Option.map_some, getElem!_pos T.data j hj']
/-- what a round's calls and writes leave of the rest -/
structure KeepT (B : Nat) (w wr : World) : Prop where
  below : Below B w wr
  blk : ∀ (g : Nat) cs t fz, t ≠ 68 → t ≠ 90 → w.heap[g]? = some (.cells cs t fz) → wr.heap[g]? = w.heap[g]?
theorem KeepT.rk [Forb] {B0 B q : Nat} {w w' : World} {R : RDisk} (o : KeepT B0 w w') (h : RkIs w B q R) : RkIs w' B q R := by
  obtain ⟨hB, vf, vs, hb, hf, hs2⟩ := h
  have hk : KeepF w w' := ⟨o.below.size, fun b cs t fz ht hh => o.blk b cs t fz (by rcases ht with rfl | rfl <;> decide) (by rcases ht with rfl | rfl <;> decide) hh⟩
  exact ⟨hB, vf, vs, (o.blk q _ _ _ (by decide) (by decide) hb).trans hb, hf.keep hk, hs2.keep hk⟩
theorem KeepT.of_below {B : Nat} {w w' : World} (h : Below w.heap.size w w') (hB : B ≤ w.heap.size) : KeepT B w w' := ⟨h.mono hB, fun g _ _ _ _ _ hh => h.block g (Array.getElem?_eq_some_iff.1 hh).1⟩
theorem KeepT.trans {B : Nat} {a b c : World} (h : KeepT B a b) (k : KeepT B b c) : KeepT B a c :=
  ⟨h.below.trans k.below, fun g cs t fz h1 h2 hh => by have e := h.blk g cs t fz h1 h2 hh; exact (k.blk g cs t fz h1 h2 (e.trans hh)).trans e⟩
theorem KeepT.out [Forb] {B p : Nat} {w w' : World} {v v1 : Value} {D : DiskD} (o : Out B w w' p v D v1) : KeepT B w w' := ⟨o.below, o.blk⟩
theorem KeepT.write {B g k : Nat} {w wr : World} {u : Value} (h : KeepT B w wr) (hg : w.heap.size ≤ g) (hB : B ≤ w.heap.size) : KeepT B w (wr.setCell ⟨g, k, none⟩ u) :=
  ⟨h.below.setCell (p := ⟨g, k, none⟩) (by show B ≤ g; omega) u, fun i cs t fz h1 h2 hh => (Below.heap_setCell wr _ u i (by show i ≠ g; have := (Array.getElem?_eq_some_iff.1 hh).1; omega)).trans (h.blk i cs t fz h1 h2 hh)⟩
theorem BtO.toF {F : Forb} {w : World} {v : Value} {s : ByteArray} (h : @BtO Forb.none w v s) (hF : ∀ k, F.bad k → w.heap.size ≤ k) : @BtO F w v s := by
  refine ⟨h.1, fun ad n c e hn hb => ?_⟩
  obtain ⟨A, c', e', _, hr⟩ := h.1
  rw [e] at e'
  simp only [Value.slice.injEq] at e'
  obtain ⟨rfl, rfl, rfl⟩ := e'
  obtain ⟨blk, off, cs, fz, e2, hh, _⟩ := hr hn
  injection e2 with e2
  subst e2
  have h9 : w.heap.size ≤ blk := hF _ hb
  have := (Array.getElem?_eq_some_iff.1 hh).1
  omega
theorem BtO.wr {F : Forb} {w : World} {g k : Nat} {v u : Value} {s : ByteArray} (h : @BtO F w v s) (hg : F.bad g) : @BtO F (w.setCell ⟨g, k, none⟩ u) v s := by
  have hne : ∀ i, i ≠ g → (w.setCell ⟨g, k, none⟩ u).heap[i]? = w.heap[i]? := fun i hi => Below.heap_setCell w _ u i hi
  obtain ⟨⟨A, c, e, hc, hr⟩, ho⟩ := h
  refine ⟨⟨A, c, e, hc, fun hs => ?_⟩, ho⟩
  obtain ⟨blk, off, cs, fz, e2, hh, hx2⟩ := hr hs
  exact ⟨blk, off, cs, fz, e2, (hne blk (fun e3 => ho ⟨blk, off, none⟩ _ c (by rw [e, e2]) hs (by rw [e3]; exact hg))).trans hh, hx2⟩
theorem RRow.toF {F : Forb} {w : World} {v : Value} {rows : List RF} (h : @RRow Forb.none w v rows) (hF : ∀ k, F.bad k → w.heap.size ≤ k) : @RRow F w v rows := by
  obtain ⟨A, c, hv, hc, hR, hT, hB⟩ := h
  exact ⟨A, c, hv, hc, hR, hT, fun x hx => (hB x hx).toF hF⟩
theorem RRow.ofF {F : Forb} {w : World} {v : Value} {rows : List RF} (h : @RRow F w v rows) : @RRow Forb.none w v rows := by
  obtain ⟨A, c, hv, hc, hR, hT, hB⟩ := h
  exact ⟨A, c, hv, hc, hR, hT, fun x hx => (hB x hx).1.o⟩
theorem RRow.wr {F : Forb} {w : World} {g k : Nat} {v u : Value} {rows : List RF} (h : @RRow F w v rows) (hg : F.bad g) (hu : ∃ cs fz, w.heap[g]? = some (.cells cs 5 fz)) : @RRow F (w.setCell ⟨g, k, none⟩ u) v rows := by
  obtain ⟨cs0, fz0, hg0⟩ := hu
  have hne : ∀ i, i ≠ g → (w.setCell ⟨g, k, none⟩ u).heap[i]? = w.heap[i]? := fun i hi => Below.heap_setCell w _ u i hi
  obtain ⟨A, c, hv, hc, hR, hT, hB⟩ := h
  have hbg : ∀ b cs fz, w.heap[b]? = some (.cells cs 100 fz) → b ≠ g := fun b cs fz hh e => by
    subst e
    rw [hg0] at hh
    injection hh with hh
    injection hh with _ ht _
    exact absurd ht (by decide)
  refine ⟨A, c, hv, hc, ⟨hR.1, fun h0 => ?_⟩, fun b o h0 hA => ?_, fun x hx => (hB x hx).wr hg⟩
  · obtain ⟨b, o, hA, hlt, hcl⟩ := hR.2 h0
    obtain ⟨cs, fz, hh⟩ := hT b o h0 hA
    have he := hne b (hbg b cs fz hh)
    exact ⟨b, o, hA, by simpa using hlt, fun j u hu => (cell_of_block he _).trans (hcl j u hu)⟩
  · obtain ⟨cs, fz, hh⟩ := hT b o h0 hA
    exact ⟨cs, fz, (hne b (hbg b cs fz hh)).trans hh⟩
theorem RkIs.toF {F : Forb} {w : World} {B p : Nat} {R : RDisk} (h : @RkIs Forb.none w B p R) (hF : ∀ k, F.bad k → w.heap.size ≤ k) : @RkIs F w B p R := by
  obtain ⟨h1, vf, vs, h2, ⟨r1, h3, e3⟩, ⟨r2, h4, e4⟩⟩ := h
  exact ⟨h1, vf, vs, h2, ⟨r1, h3.toF hF, e3⟩, ⟨r2, h4.toF hF, e4⟩⟩
theorem RkIs.ofF {F : Forb} {w : World} {B p : Nat} {R : RDisk} (h : @RkIs F w B p R) : @RkIs Forb.none w B p R := by
  obtain ⟨h1, vf, vs, h2, ⟨r1, h3, e3⟩, ⟨r2, h4, e4⟩⟩ := h
  exact ⟨h1, vf, vs, h2, ⟨r1, h3.ofF, e3⟩, ⟨r2, h4.ofF, e4⟩⟩
theorem RkIs.wr {F : Forb} {w : World} {B p g k : Nat} {u : Value} {R : RDisk} (h : @RkIs F w B p R) (hg : F.bad g) (hu : ∃ cs fz, w.heap[g]? = some (.cells cs 5 fz)) : @RkIs F (w.setCell ⟨g, k, none⟩ u) B p R := by
  obtain ⟨h1, vf, vs, h2, ⟨r1, h3, e3⟩, ⟨r2, h4, e4⟩⟩ := h
  obtain ⟨cs0, fz0, hg0⟩ := id hu
  have hpg : p ≠ g := fun e => by subst e; exact blk_type h2 hg0 (by decide)
  exact ⟨h1, vf, vs, (Below.heap_setCell w _ u p hpg).trans h2, ⟨r1, h3.wr hg hu, e3⟩, ⟨r2, h4.wr hg hu, e4⟩⟩
/-- so many bytes that may be written over, whatever else is marked in their block -/
def BytesN (w : World) (g n : Nat) : Prop := ∃ (C : Array Value) (fz : Nat × Nat), w.heap[g]? = some (.cells C 5 fz) ∧ n ≤ C.size ∧ (n ≤ fz.1 ∨ fz.2 = 0) ∧ ∀ k, k < n → ∃ z : Int, 0 ≤ z ∧ z ≤ 255 ∧ C[k]? = some (.int .u8 z)
theorem BytesW.toN {w : World} {g n : Nat} (h : BytesW w g n) : BytesN w g n := by
  obtain ⟨C, h1, h2, h3⟩ := h
  exact ⟨C, _, h1, h2, .inl h2, h3⟩
theorem BytesN.lt {w : World} {g n : Nat} (h : BytesN w g n) : g < w.heap.size := by
  obtain ⟨C, fz, h1, _⟩ := h
  exact (Array.getElem?_eq_some_iff.1 h1).1
theorem BytesN.u8 {w : World} {g n : Nat} (h : BytesN w g n) : ∃ cs fz, w.heap[g]? = some (.cells cs 5 fz) := by
  obtain ⟨C, fz, h1, _⟩ := h
  exact ⟨C, fz, h1⟩
theorem BytesN.at_ {w : World} {g n k : Nat} (h : BytesN w g n) (hk : k < n) : ∃ z : Int, 0 ≤ z ∧ z ≤ 255 ∧ w.cell? ⟨g, k, none⟩ = some (.int .u8 z) ∧ w.frozen? ⟨g, k, none⟩ = false := by
  obtain ⟨C, fz, h1, h2, h3, h4⟩ := h
  obtain ⟨z, h5, h6, h7⟩ := h4 k hk
  refine ⟨z, h5, h6, by rw [cell_of_row w g k C _ _ h1, h7], ?_⟩
  have hz : ¬ (fz.1 ≤ k ∧ k < fz.2) := by omega
  simp only [World.frozen?, h1]
  simpa using fun h => by omega
theorem BytesN.set_ {w : World} {g n k : Nat} (h : BytesN w g n) {z : Int} (h0 : 0 ≤ z) (h1 : z ≤ 255) : BytesN (w.setCell ⟨g, k, none⟩ (.int .u8 z)) g n := by
  obtain ⟨C, fz, e1, e2, e3, e4⟩ := h
  refine ⟨C.setIfInBounds k (.int .u8 z), fz, row_setT k _ e1, by rw [Array.size_setIfInBounds]; exact e2, e3, fun j hj => ?_⟩
  rw [Array.getElem?_setIfInBounds]
  split
  · rename_i hkj
    subst hkj
    rw [if_pos (by omega)]
    exact ⟨z, h0, h1, rfl⟩
  · exact e4 j hj
theorem BytesN.keep {w w' : World} {g n : Nat} (h : BytesN w g n) (hk : ∀ cs fz, w.heap[g]? = some (.cells cs 5 fz) → w'.heap[g]? = w.heap[g]?) : BytesN w' g n := by
  obtain ⟨C, fz, e1, e2⟩ := h
  exact ⟨C, fz, (hk _ _ e1).trans e1, e2⟩
theorem BytesN.below {w w' : World} {g n : Nat} (h : BytesN w g n) (hb : Below w.heap.size w w') : BytesN w' g n := h.keep fun _ _ _ => hb.block g h.lt
theorem BytesN.of_own {w : World} {base n : Nat} {v : Value} {b : ByteArray} (h : w.ownsRow base 5 1 v n (ucells b)) : (v = .slice none 0 0 ∧ n = 0) ∨ ∃ g cap, v = .slice (some ⟨g, 0, none⟩) n cap ∧ base ≤ g ∧ n ≤ cap ∧ BytesN w g n := by
  rcases h.2 with h0 | ⟨g, cap, cur, hv, hg, hh, hn, hm, hs, ht⟩
  · exact .inl h0
  · refine .inr ⟨g, cap, hv, hg, hn, cur, _, hh, by omega, .inr rfl, fun k hk => ?_⟩
    have hl := h.1
    have hk2 : k < b.data.size := by
      have : (ucells b).length = b.data.size := by simp [ucells]
      omega
    have e : cur[k]? = (ucells b)[k]? := by
      rw [← ht, List.getElem?_take, if_pos (by omega), Array.getElem?_toList]
    rw [e]
    unfold ucells
    rw [List.getElem?_map, Array.getElem?_toList, Array.getElem?_eq_getElem hk2]
    exact ⟨_, by omega, by have := b.data[k].toNat_lt; omega, rfl⟩
end Go.Proofs.YthmcimpdehgaoaaGreatDoor
