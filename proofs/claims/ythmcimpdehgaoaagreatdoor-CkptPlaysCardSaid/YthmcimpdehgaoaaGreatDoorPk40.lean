/- CkptPlays: the two disks and stores side by side; the calls upon them. What the calls of a store of checkpoints cost on the disk. CkptPlays: a budget of steps, files and bytes; no file is longer than what all calls have brought. -/
import Derived.Test.YthmcimpdehgaoaaGreatDoorPk33
import Derived.Test.YthmcimpdehgaoaaGreatDoorPk34
import Derived.Test.YthmcimpdehgaoaaGreatDoorPk38
import Derived.Test.YthmcimpdehgaoaaGreatDoorPk39
import Derived.Test.YthmcimpdehgaoaaGreatDoorCkD
import Derived.Test.YthmcimpdehgaoaaGreatDoorPk31
import Derived.Test.YthmcimpdehgaoaaGreatDoorPk16
namespace Go.Proofs.YthmcimpdehgaoaaGreatDoor
open Go.RowKit Go.Maps

/-- the two stores -/
def StoC (wr : World) (p q : Nat) (E : Int) (s t : Value) : Prop :=
  (E ≠ 0 ∧ s = .pointer none ∧ t = .pointer none) ∨ (E = 0 ∧ ∃ gs gr, s = .pointer (some ⟨gs, 0, none⟩) ∧ t = .pointer (some ⟨gr, 0, none⟩) ∧ CkSt wr gs p ∧ RcSt wr gr q)
/-- the two disks side by side -/
structure PlC (w wr : World) (p q : Nat) (v : Value) (D : DiskD) (R : RDisk) (E : Int) (s t : Value) : Prop where
  is : DiskIs wr w.heap.size p v D
  rk : RkIs wr w.heap.size q R
  below : Below w.heap.size w wr
  sto : StoC wr p q E s t
/-- calls that lie in memory stay -/
def KpX (wa wb : World) : Prop := ∀ g cs, Blk wa g 36 cs → Blk wb g 36 cs
theorem KpX.of_below {wa wb : World} (h : Below wa.heap.size wa wb) : KpX wa wb := fun _ _ hk => hk.below h hk.lt
theorem KpX.trans {wa wb wc : World} (h : KpX wa wb) (k : KpX wb wc) : KpX wa wc := fun g cs x => k g cs (h g cs x)
theorem Out.kpX {B p : Nat} {wa wb : World} {v v1 : Value} {D1 : DiskD} (o : Out B wa wb p v D1 v1) : KpX wa wb := fun _ _ hk => o.keep_blk hk (by decide) (by decide)
theorem RkOut.kpX {B p : Nat} {wa wb : World} {R R1 : RDisk} (o : RkOut B wa wb p R1) (h : RkIs wa B p R) : KpX wa wb := fun _ _ hk => o.keep_blk h hk (by decide)
section
variable {w wr w2 : World} {p q gs gr : Nat} {v v2 : Value} {D D2 : DiskD} {R R2 : RDisk} {E : Int} {s t : Value}
theorem PlC.hB (a : PlC w wr p q v D R E s t) : w.heap.size ≤ wr.heap.size := a.below.size
theorem PlC.below_ (a : PlC w wr p q v D R E s t) (hb : Below wr.heap.size wr w2) : PlC w w2 p q v D R E s t := by
  refine ⟨a.is.below hb (Nat.le_refl _), a.rk.below hb, a.below.trans (hb.mono a.hB), ?_⟩
  rcases a.sto with h | ⟨h0, gs, gr, h1, h2, h3, h4⟩
  · exact .inl h
  · exact .inr ⟨h0, gs, gr, h1, h2, h3.below hb, h4.below hb⟩
theorem PlC.out (a : PlC w wr p q v D R E s t) (o : Out w.heap.size wr w2 p v D2 v2) : PlC w w2 p q v2 D2 R E s t := by
  refine ⟨o.is, o.rk o.below.size a.rk, a.below.trans o.below, ?_⟩
  rcases a.sto with h | ⟨h0, gs, gr, h1, h2, h3, h4⟩
  · exact .inl h
  · exact .inr ⟨h0, gs, gr, h1, h2, h3.out o, o.keep_blk h4 (by decide) (by decide)⟩
theorem PlC.rout (a : PlC w wr p q v D R E s t) (o : RkOut w.heap.size wr w2 q R2) : PlC w w2 p q v D R2 E s t := by
  refine ⟨o.disk a.rk a.is, o.is, a.below.trans (o.belowB a.hB), ?_⟩
  rcases a.sto with h | ⟨h0, gs, gr, h1, h2, h3, h4⟩
  · exact .inl h
  · exact .inr ⟨h0, gs, gr, h1, h2, o.keep_blk a.rk h3 (by decide), h4.out o a.rk⟩
theorem pc_fail (a : PlC w wr p q v D R E s t) (z : Int) : Calls Tryz.prog 17 #[.pointer (some ⟨p, 0, none⟩), .int .i64 z] wr fun e w' => e = .returned (.tuple #[]) ∧ ∃ v', PlC w w' p q v' { D with left := max (-1) z } R E s t ∧ KpX wr w' :=
  (d_fail a.is a.hB z rfl).mono fun _ _ ⟨he, v', o⟩ => ⟨he, v', a.out o, o.kpX⟩
theorem pc_rfail (a : PlC w wr p q v D R E s t) (z : Int) : Calls Tryz.prog 25 #[.pointer (some ⟨q, 0, none⟩), .int .i64 z] wr fun e w' => e = .returned (.tuple #[]) ∧ PlC w w' p q v D { R with left := max (-1) z } E s t ∧ KpX wr w' :=
  (rfail_any wr _ q R a.rk z).mono fun _ _ ⟨he, o⟩ => ⟨he, a.rout o, o.kpX a.rk⟩
theorem pc_crash (a : PlC w wr p q v D R E s t) : Calls Tryz.prog 20 #[.pointer (some ⟨p, 0, none⟩)] wr fun e w' => e = .returned (.tuple #[]) ∧ ∃ v', PlC w w' p q v' { D with off := true, left := -1 } R E s t ∧ KpX wr w' :=
  (d_crash a.is a.hB rfl).mono fun _ _ ⟨he, v', o⟩ => ⟨he, v', a.out o, o.kpX⟩
theorem pc_rcrash (a : PlC w wr p q v D R E s t) : Calls Tryz.prog 26 #[.pointer (some ⟨q, 0, none⟩)] wr fun e w' => e = .returned (.tuple #[]) ∧ PlC w w' p q v D { R with gone := true, left := -1 } E s t ∧ KpX wr w' :=
  (rcrash_any wr _ q R a.rk).mono fun _ _ ⟨he, o⟩ => ⟨he, a.rout o, o.kpX a.rk⟩
theorem pc_append (a : PlC w wr p q v D R E s t) (hf : FitN D 1) {n b : ByteArray} {A : Option Addr} {c : Nat} (hb : BtR w (.slice A b.size c) b) (hs : b.size ≤ 5000) :
    Calls Tryz.prog 28 #[.pointer (some ⟨p, 0, none⟩), .string n, .slice A b.size c] wr fun e w' => ∃ E', e = .returned (.int .i64 E') ∧ ∃ v', PlC w w' p q v' (D.append n b).2 R E s t ∧ KpX wr w' :=
  (d_append a.is a.hB hf.fit (by have := hf.used; omega) (hb.below a.below) (by omega) (E := (D.append n b).1) (D' := (D.append n b).2) rfl).mono fun _ _ ⟨he, v', o⟩ => ⟨_, he, v', a.out o, o.kpX⟩
theorem pc_rappend (a : PlC w wr p q v D R E s t) (hf : RFit R) {n b : ByteArray} {A : Option Addr} {c : Nat} (hb : BtR w (.slice A b.size c) b) (hs : b.size ≤ 5000) :
    Calls Tryz.prog 29 #[.pointer (some ⟨q, 0, none⟩), .string n, .slice A b.size c] wr fun e w' => ∃ E', e = .returned (.int .i64 E') ∧ PlC w w' p q v D (R.append n b).2 E s t ∧ KpX wr w' :=
  (rappend_any wr _ q R a.rk hf n _ b (hb.below a.below) (by omega)).mono fun _ _ ⟨he, o⟩ => ⟨_, he, a.rout o, o.kpX a.rk⟩
theorem pc_cut (a : PlC w wr p q v D R E s t) (hf : FitN D 1) (n : ByteArray) (z : Int) : Calls Tryz.prog 30 #[.pointer (some ⟨p, 0, none⟩), .string n, .int .i64 z] wr fun e w' => ∃ E', e = .returned (.int .i64 E') ∧ ∃ v', PlC w w' p q v' (D.step 1 n n z false).2 R E s t ∧ KpX wr w' :=
  (d_cut a.is a.hB hf.fit (name := n) (n := z) (E := (D.step 1 n n z false).1) (D' := (D.step 1 n n z false).2) rfl).mono fun _ _ ⟨he, v', o⟩ => ⟨_, he, v', a.out o, o.kpX⟩
theorem pc_rcut (a : PlC w wr p q v D R E s t) (hf : RFit R) (n : ByteArray) (z : Int) : Calls Tryz.prog 31 #[.pointer (some ⟨q, 0, none⟩), .string n, .int .i64 z] wr fun e w' => ∃ E', e = .returned (.int .i64 E') ∧ PlC w w' p q v D (R.cut n z).2 E s t ∧ KpX wr w' :=
  (rcut_any wr _ q R a.rk hf n z).mono fun _ _ ⟨he, o⟩ => ⟨_, he, a.rout o, o.kpX a.rk⟩
theorem rd_blockC {A : Option Addr} {n : Nat} {xs : List Value} {p : Nat} (h : Rd w 1 A n xs) (hp : w.heap.size ≤ p) : 0 < n → ∀ ad, A = some ad → ad.block ≠ p := fun h0 ad he => by
  obtain ⟨ad2, he2, hb, -⟩ := h.2 h0
  rw [he] at he2
  injection he2 with he2
  subst he2
  omega
theorem pc_on (a : PlC w wr p q v D R E s t) (hsim : Sim D R) (hf : FitN D 1) {A : Option Addr} {c : Nat} {ks : List Int} (hk : Rd w 1 A ks.length (ks.map (Value.int .i64))) (hl : ks.length ≤ 5000) :
    Calls Tryz.prog 19 #[.pointer (some ⟨p, 0, none⟩), .slice A ks.length c] wr fun e w' => e = .returned (.tuple #[]) ∧ ∃ v', PlC w w' p q v' (D.on ks) R E s t ∧ KpX wr w' :=
  (d_on0 a.is a.hB hf.fit hsim.ok (hk.below a.below) (rd_blockC hk a.is.1) (by omega) rfl).mono fun _ _ ⟨he, v', o⟩ => ⟨he, v', a.out o, o.kpX⟩
theorem pc_ron (a : PlC w wr p q v D R E s t) (hso : SafeR R) (hf : RFit R) {A : Option Addr} {c : Nat} {ks : List Int} (hk : Rd w 1 A ks.length (ks.map (Value.int .i64))) (hl : ks.length ≤ 5000) :
    Calls Tryz.prog 27 #[.pointer (some ⟨q, 0, none⟩), .slice A ks.length c] wr fun e w' => e = .returned (.tuple #[]) ∧ PlC w w' p q v D (R.on ks) E s t ∧ KpX wr w' :=
  (ron_any wr _ q R a.rk hf hso A c ks (hk.below a.below) (rd_blockC hk a.rk.1) (by omega)).mono fun _ _ ⟨he, o⟩ => ⟨he, a.rout o, o.kpX a.rk⟩
/-- between the two openings -/
def HalfC (wr : World) (p : Nat) (s : Value) (D : DiskD) : Prop := ((openC D).1 ≠ 0 ∧ s = .pointer none) ∨ ((openC D).1 = 0 ∧ ∃ gs, s = .pointer (some ⟨gs, 0, none⟩) ∧ CkSt wr gs p)
def PlC0 (w wr : World) (p q : Nat) (v : Value) (D : DiskD) (R : RDisk) : Prop := PlC w wr p q v D R 1 (.pointer none) (.pointer none)
theorem PlC.zero (a : PlC w wr p q v D R E s t) : PlC0 w wr p q v D R := ⟨a.is, a.rk, a.below, .inl ⟨by decide, rfl, rfl⟩⟩
theorem pc_open (a : PlC w wr p q v D R E s t) (hf : FitN D 1) :
    Calls Tryz.prog 11 #[.pointer (some ⟨p, 0, none⟩)] wr fun e w' => ∃ s', e = .returned (.tuple #[s', .int .i64 (openC D).1]) ∧ (∃ v', PlC0 w w' p q v' (openC D).2 R) ∧ HalfC w' p s' D ∧ KpX wr w' :=
  (copen_any wr _ p v D a.is a.hB hf.fit).mono fun e w' hP => by
    obtain ⟨⟨v1, o⟩, hc⟩ := hP
    have hz := (a.out o).zero
    rcases hc with ⟨h0, he⟩ | ⟨h0, gs, he, hg, hst⟩
    · exact ⟨_, he, ⟨v1, hz⟩, .inl ⟨h0, rfl⟩, o.kpX⟩
    · exact ⟨_, by rw [h0]; exact he, ⟨v1, hz⟩, .inr ⟨h0, gs, rfl, hst⟩, o.kpX⟩
theorem pc_ropen (a : PlC0 w wr p q v D2 R) (hh : HalfC wr p s D) (hsim : Sim D R) (hf : FitN D 1) :
    Calls Tryz.prog 22 #[.pointer (some ⟨q, 0, none⟩)] wr fun e w' => ∃ t', e = .returned (.tuple #[t', .int .i64 (openC D).1]) ∧ PlC w w' p q v D2 (openRC R).2 (openC D).1 s t' ∧ KpX wr w' := by
  have hE := (sim_openC hsim).1
  refine (rcopen_any wr _ q R a.rk (sim_fit hsim hf)).mono fun e w' hP => ?_
  obtain ⟨o, hc⟩ := hP
  have hz := a.rout o
  rcases hc with ⟨h0, he⟩ | ⟨h0, gr, he, hg, hst⟩
  · refine ⟨_, by rw [hE]; exact he, ⟨hz.is, hz.rk, hz.below, ?_⟩, o.kpX a.rk⟩
    rcases hh with ⟨h1, h2⟩ | ⟨h1, _⟩
    · exact .inl ⟨h1, h2, rfl⟩
    · exact absurd (hE ▸ h1) h0
  · refine ⟨_, by rw [hE, h0]; exact he, ⟨hz.is, hz.rk, hz.below, ?_⟩, o.kpX a.rk⟩
    rcases hh with ⟨h1, _⟩ | ⟨h1, gs, h2, h3⟩
    · exact absurd (hE.trans h0) h1
    · exact .inr ⟨h1, gs, gr, h2, rfl, o.keep_blk a.rk h3 (by decide), hst⟩
end
end Go.Proofs.YthmcimpdehgaoaaGreatDoor
namespace Go.Proofs.YthmcimpdehgaoaaGreatDoor
open Go.RowKit

theorem cst_outC {D : DiskD} (h : -1 ≤ D.left) (E : Int) : Cst D (outC E D).2 1 0 0 := by
  unfold outC
  split
  · exact cst_clearC h
  · exact (Cst.refl h).mono (Nat.zero_le 1) (Nat.le_refl 0) (Nat.le_refl 0)
theorem cst_openC {D : DiskD} (h : -1 ≤ D.left) : Cst D (openC D).2 1 0 0 := by
  unfold openC
  split
  · exact (Cst.refl h).mono (Nat.zero_le 1) (Nat.le_refl 0) (Nat.le_refl 0)
  · exact cst_clearC h
theorem cst_writeC {D : DiskD} (h : -1 ≤ D.left) (step : Int) (b : ByteArray) : Cst D (writeC D step b).2 5 1 (17 + b.size) := by
  have hz := (Cst.refl h).mono (Nat.zero_le 5) (Nat.zero_le 1) (Nat.zero_le (17 + b.size))
  unfold writeC
  split
  · exact hz
  · split
    · exact hz
    · split
      · exact hz
      · have hs := fileC_size step.toNat b
        have a1 := cst_clearC h
        split
        · exact (a1.trans (cst_outC a1.l0 _)).mono (by decide) (by decide) (by omega)
        · have a2 := a1.trans (cst_append a1.l0 tmpC (fileC step.toNat b))
          rw [hs] at a2
          split
          · exact (a2.trans (cst_outC a2.l0 _)).mono (by decide) (by decide) (by omega)
          · have a3 := a2.trans (cst_step a2.l0 0 tmpC tmpC 0 true)
            split
            · exact (a3.trans (cst_outC a3.l0 _)).mono (by decide) (by decide) (by omega)
            · have a4 := a3.trans (cst_step a3.l0 2 tmpC (nameC step.toNat) 0 true)
              split
              · exact (a4.trans (cst_outC a4.l0 _)).mono (by decide) (by decide) (by omega)
              · exact a4.mono (by decide) (by decide) (by omega)
theorem cst_dropGo (below : Int) : ∀ (ns : List Nat) {D : DiskD}, -1 ≤ D.left → Cst D (dropGo below D ns).2 ns.length 0 0 := by
  intro ns
  induction ns with
  | nil => intro D h; exact Cst.refl h
  | cons n r ih =>
    intro D h
    rw [dropGo, List.length_cons]
    split
    · exact (Cst.refl h).mono (Nat.zero_le _) (Nat.le_refl _) (Nat.le_refl _)
    · have a1 := cst_step h 3 (nameC n) (nameC n) 0 true
      split
      · exact a1.mono (by omega) (Nat.le_refl _) (Nat.le_refl _)
      · exact (a1.trans (ih a1.l0)).mono (by omega) (Nat.le_refl _) (Nat.le_refl _)
theorem cst_dropC {D : DiskD} (h : -1 ≤ D.left) (below : Int) : Cst D (dropC D below).2 (allC D).length 0 0 := by
  unfold dropC
  split
  · exact (Cst.refl h).mono (Nat.zero_le _) (Nat.le_refl _) (Nat.le_refl _)
  · exact cst_dropGo below _ h
end Go.Proofs.YthmcimpdehgaoaaGreatDoor
namespace Go.Proofs.YthmcimpdehgaoaaGreatDoor
open Go.RowKit

/-- behind i rounds that have brought u bytes -/
structure BudC (D : DiskD) (i u : Nat) : Prop where
  s0 : 0 ≤ D.steps
  s1 : D.steps ≤ 400 * i
  f : D.files.length ≤ i
  u : D.used ≤ u + 17 * i
  l0 : -1 ≤ D.left
  l1 : D.left ≤ 8
theorem BudC.next {D D' : DiskD} {i u s f k b : Nat} (h : BudC D i u) (c : Cst D D' s f k) (h1 : s ≤ 400) (h2 : f ≤ 1) (h3 : k ≤ 17 + b) : BudC D' (i + 1) (u + b) :=
  ⟨by have := h.s0; have := c.s0; omega, by have := h.s1; have := c.s1; omega, by have := h.f; have := c.f; omega, by have := h.u; have := c.u; omega, c.l0, by have := h.l1; have := c.l1; omega⟩
theorem BudC.fit {D : DiskD} {i u : Nat} (h : BudC D i u) (hi : i ≤ 64) (hu : u ≤ 5000) : FitN D 1000 :=
  ⟨h.s0, by have := h.s1; omega, by have := h.f; omega, by have := h.u; omega, h.l0, by have := h.l1; omega⟩
theorem BudC.left {D : DiskD} {i u : Nat} (h : BudC D i u) (z : Int) (hz : z ≤ 8) (off : Bool) : BudC { D with left := max (-1) z, off := off } i u :=
  ⟨h.s0, h.s1, h.f, h.u, by show -1 ≤ max (-1) z; omega, by show max (-1) z ≤ 8; omega⟩
theorem BudC.less {D : DiskD} {i j u v : Nat} (h : BudC D i u) (hi : i ≤ j) (hu : u ≤ v) : BudC D j v :=
  ⟨h.s0, by have := h.s1; omega, by have := h.f; omega, by have := h.u; omega, h.l0, h.l1⟩
/-- a file that is read is no longer than all together -/
theorem read_used {D : DiskD} (t : ByteArray) : (D.read t).2.size ≤ D.used := by
  unfold DiskD.read
  split
  · exact Nat.zero_le _
  · split
    · show ((D.files.map (·.b)).getD _ ByteArray.empty).size ≤ _
      rw [List.getD_eq_getElem?_getD, List.getElem?_map]
      cases hx : D.files[(findN (D.files.map (·.name)) t).1]? with
      | none => exact Nat.zero_le _
      | some f => exact size_le_used (List.mem_of_getElem? hx)
    · exact Nat.zero_le _
theorem BudC.size {D : DiskD} {R : RDisk} {i u : Nat} (h : BudC D i u) (hsim : Sim D R) (hi : i ≤ 64) (hu : u ≤ 5000) (t : ByteArray) : (R.read t).2.size ≤ 9900 := by
  rw [← sim_read hsim t]
  have := read_used (D := D) t
  have := h.u
  omega
theorem sim_names {D : DiskD} {R : RDisk} (h : Sim D R) : ∀ f ∈ D.files, f.name.size ≤ 1000 := by
  intro f hf
  have hg := h.good f hf
  unfold badN at hg
  simp at hg
  omega
end Go.Proofs.YthmcimpdehgaoaaGreatDoor
