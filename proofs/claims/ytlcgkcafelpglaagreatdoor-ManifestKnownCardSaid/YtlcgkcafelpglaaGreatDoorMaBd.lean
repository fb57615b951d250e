/- What calls cost on a disk: steps, files, bytes; the state of ManifestPlays. -/
import Derived.Test.YtlcgkcafelpglaaGreatDoorMaLi
import Derived.Test.YtlcgkcafelpglaaGreatDoorMaKs
namespace Go.Proofs.YtlcgkcafelpglaaGreatDoor
open Go.RowKit Go.Maps

structure Cst (D D' : DiskD) (s f u : Nat) : Prop where
  s0 : D.steps ≤ D'.steps
  s1 : D'.steps ≤ D.steps + s
  f : D'.files.length ≤ D.files.length + f
  u : D'.used ≤ D.used + u
  l0 : -1 ≤ D'.left
  l1 : D'.left ≤ max D.left (-1)
theorem Cst.refl {D : DiskD} (h : -1 ≤ D.left) : Cst D D 0 0 0 := ⟨Int.le_refl _, by omega, Nat.le_refl _, Nat.le_refl _, h, by omega⟩
theorem Cst.trans {D D1 D2 : DiskD} {s f u s' f' u' : Nat} (a : Cst D D1 s f u) (b : Cst D1 D2 s' f' u') : Cst D D2 (s + s') (f + f') (u + u') :=
  ⟨by have := a.s0; have := b.s0; omega, by have := a.s1; have := b.s1; omega, by have := a.f; have := b.f; omega, by have := a.u; have := b.u; omega, b.l0, by have := a.l1; have := b.l1; omega⟩
theorem Cst.mono {D D1 : DiskD} {s f u s' f' u' : Nat} (a : Cst D D1 s f u) (h1 : s ≤ s') (h2 : f ≤ f') (h3 : u ≤ u') : Cst D D1 s' f' u' :=
  ⟨a.s0, by have := a.s1; omega, by have := a.f; omega, by have := a.u; omega, a.l0, a.l1⟩
theorem cst_step {D : DiskD} (h : -1 ≤ D.left) (kind : Int) (a b : ByteArray) (k : Int) (all : Bool) : Cst D (D.step kind a b k all).2 1 0 0 := by
  have hr := (Cst.refl h).mono (Nat.zero_le 1) (Nat.le_refl 0) (Nat.le_refl 0)
  unfold DiskD.step
  split
  · exact hr
  · split
    · exact hr
    · rename_i i f hat
      have hp := power_fit D h
      generalize (if all = true then (f.b.size : Int) else k) = K
      split
      · exact hr
      · have h1 := (DiskD.at_some hat).2
        have hd := does_fit kind D.files i K.toNat b f h1
        split
        · refine ⟨?_, ?_, ?_, ?_, hp.2.2.2.1, ?_⟩
          · show D.steps ≤ D.power.2.steps; omega
          · show D.power.2.steps ≤ _; omega
          · show (doesL kind D.files i _ b f).length ≤ _; omega
          · show usedL (doesL kind D.files i _ b f) ≤ usedL D.files + 0; omega
          · show D.power.2.left ≤ _; omega
        · refine ⟨?_, ?_, ?_, ?_, hp.2.2.2.1, ?_⟩
          · show D.steps ≤ D.power.2.steps; omega
          · show D.power.2.steps ≤ _; omega
          · rw [hp.2.1]; omega
          · unfold DiskD.used; rw [hp.2.1]; omega
          · show D.power.2.left ≤ _; omega
theorem put_cost (D : DiskD) (a b : ByteArray) : (D.put a b).files.length ≤ D.files.length + 1 ∧ usedL (D.put a b).files ≤ usedL D.files + b.size := by
  refine ⟨putL_len _ _ _ _, ?_⟩
  unfold DiskD.put
  show usedL (putL D.files (findN (D.files.map (·.name)) a).1 (findN (D.files.map (·.name)) a).2 ⟨(D.was a).name, (D.was a).b ++ b, (D.was a).safe⟩) ≤ _
  cases hat : D.at_ a with
  | none =>
    have hw : D.was a = ⟨a, ByteArray.empty, -1⟩ := by unfold DiskD.was; rw [hat]
    have := putL_used D.files (findN (D.files.map (·.name)) a).1 (findN (D.files.map (·.name)) a).2 ⟨(D.was a).name, (D.was a).b ++ b, (D.was a).safe⟩
    have e : (⟨(D.was a).name, (D.was a).b ++ b, (D.was a).safe⟩ : FileD).b.size = b.size := by
      show ((D.was a).b ++ b).size = _
      rw [hw, ByteArray.size_append]; simp
    omega
  | some x =>
    obtain ⟨i, f⟩ := x
    obtain ⟨h6, h7⟩ := DiskD.at_some hat
    have hw : D.was a = f := by unfold DiskD.was; rw [hat]
    rw [h6]
    unfold putL
    rw [if_pos rfl]
    have := usedL_set ⟨(D.was a).name, (D.was a).b ++ b, (D.was a).safe⟩ h7
    have e : (⟨(D.was a).name, (D.was a).b ++ b, (D.was a).safe⟩ : FileD).b.size = f.b.size + b.size := by
      show ((D.was a).b ++ b).size = _
      rw [hw, ByteArray.size_append]
    show usedL (D.files.set i ⟨(D.was a).name, (D.was a).b ++ b, (D.was a).safe⟩) ≤ _
    omega
theorem cst_append {D : DiskD} (h : -1 ≤ D.left) (a b : ByteArray) : Cst D (D.append a b).2 1 1 b.size := by
  have hr := (Cst.refl h).mono (Nat.zero_le 1) (Nat.zero_le 1) (Nat.zero_le b.size)
  unfold DiskD.append
  split
  · exact hr
  · split
    · exact hr
    · split
      · exact hr
      · have hp := power_fit (D.put a b) h
        obtain ⟨h1, h2⟩ := put_cost D a b
        have hst : (D.put a b).steps = D.steps := rfl
        have hlf : (D.put a b).left = D.left := rfl
        refine ⟨?_, ?_, ?_, ?_, hp.2.2.2.1, ?_⟩
        · rw [hp.1, hst]; omega
        · rw [hp.1, hst]; omega
        · rw [hp.2.1]; exact h1
        · unfold DiskD.used; rw [hp.2.1]; exact h2
        · omega
theorem cst_clear {D : DiskD} (h : -1 ≤ D.left) : Cst D (clearD D).2 1 0 0 := by
  unfold clearD
  split
  · exact (Cst.refl h).mono (Nat.zero_le 1) (Nat.le_refl 0) (Nat.le_refl 0)
  · exact cst_step h _ _ _ _ _
theorem cst_out {D : DiskD} (h : -1 ≤ D.left) (E : Int) (S : StD) : Cst D (outD E D S).2.1 1 0 0 := by
  unfold outD
  split
  · exact cst_clear h
  · exact (Cst.refl h).mono (Nat.zero_le 1) (Nat.le_refl 0) (Nat.le_refl 0)
theorem cst_write {D : DiskD} (h : -1 ≤ D.left) (S : StD) (m : ManM) : Cst D (writeD D S m).2.1 6 1 50 := by
  have hb : (nextM S m).bytes.size = 50 := (nextM S m).bytes_size
  unfold writeD
  split
  · exact (Cst.refl h).mono (Nat.zero_le _) (Nat.zero_le _) (Nat.zero_le _)
  · have a1 := cst_clear h
    split
    · exact (a1.trans (cst_out a1.l0 _ S)).mono (by decide) (by decide) (by decide)
    · have a2 := a1.trans (cst_append a1.l0 tmpN (nextM S m).bytes)
      rw [hb] at a2
      split
      · exact (a2.trans (cst_out a2.l0 _ S)).mono (by decide) (by decide) (by decide)
      · have a3 := a2.trans (cst_step a2.l0 0 tmpN tmpN 0 true)
        split
        · exact (a3.trans (cst_out a3.l0 _ S)).mono (by decide) (by decide) (by decide)
        · have a4 := a3.trans (cst_step a3.l0 2 tmpN (nameM (nextM S m).n) 0 true)
          split
          · exact (a4.trans (cst_out a4.l0 _ S)).mono (by decide) (by decide) (by decide)
          · split
            · exact (a4.trans (cst_step a4.l0 3 (nameM S.m.n) (nameM S.m.n) 0 true)).mono (by decide) (by decide) (by decide)
            · exact a4.mono (by decide) (by decide) (by decide)
theorem cst_drop (S : StD) : ∀ (ns : List ByteArray) {D : DiskD}, -1 ≤ D.left → Cst D (dropD S D ns).2 ns.length 0 0 := by
  intro ns
  induction ns with
  | nil => intro D h; exact Cst.refl h
  | cons t r ih =>
    intro D h
    rw [dropD, List.length_cons]
    have a1 := cst_step h 3 t t 0 true
    split
    · exact (ih h).mono (by omega) (Nat.le_refl _) (Nat.le_refl _)
    · split
      · exact a1.mono (by omega) (Nat.le_refl _) (Nat.le_refl _)
      · exact (a1.trans (ih a1.l0)).mono (by omega) (Nat.le_refl _) (Nat.le_refl _)
theorem cst_open {D : DiskD} (h : -1 ≤ D.left) : Cst D (openD D).2 D.files.length 0 0 := by
  unfold openD
  split
  · exact (Cst.refl h).mono (Nat.zero_le _) (Nat.zero_le _) (Nat.zero_le _)
  · refine (cst_drop _ _ h).mono ?_ (Nat.le_refl _) (Nat.le_refl _)
    unfold mfNames
    refine Nat.le_trans (List.length_filter_le _ _) ?_
    rw [List.length_map]
    exact Nat.le_refl _
theorem onGo_used : ∀ (L : List FileD) (ks : List Int), usedL (onGo L ks) ≤ usedL L := by
  intro L
  induction L with
  | nil => intro ks; exact Nat.le_refl _
  | cons f L ih =>
    intro ks
    have h1 := ih ks.tail
    have h2 : usedL (keptL f ks.head?) ≤ f.b.size := by
      unfold keptL
      split
      · have : usedL [(⟨f.name, f.b.extract 0 (keptN f ks.head?), keptN f ks.head?⟩ : FileD)] = (f.b.extract 0 (keptN f ks.head?)).size := by simp [usedL]
        rw [this, ByteArray.size_extract]; omega
      · exact Nat.zero_le _
    have e : onGo (f :: L) ks = keptL f ks.head? ++ onGo L ks.tail := rfl
    have e2 : usedL (f :: L) = f.b.size + usedL L := by simp [usedL]
    rw [e, e2, usedL_append]
    omega
theorem cst_on {D : DiskD} (ks : List Int) : Cst D (D.on ks) 0 0 0 := by
  unfold DiskD.on
  split
  · refine ⟨Int.le_refl _, by show D.steps ≤ _; omega, ?_, onGo_used _ _, Int.le_refl _, by show (-1 : Int) ≤ _; omega⟩
    have := (onGo_sub D.files ks).length_le
    rw [List.length_map, List.length_map] at this
    exact this
  · exact ⟨Int.le_refl _, by show D.steps ≤ _; omega, Nat.le_refl _, Nat.le_refl _, Int.le_refl _, by show (-1 : Int) ≤ _; omega⟩
/-- behind so many rounds -/
structure Bud (D : DiskD) (i : Nat) : Prop where
  s0 : 0 ≤ D.steps
  s1 : D.steps ≤ 400 * i
  f : D.files.length ≤ i
  u : D.used ≤ 5100 * i
  l0 : -1 ≤ D.left
  l1 : D.left ≤ 8
theorem Bud.next {D D' : DiskD} {i s f u : Nat} (h : Bud D i) (c : Cst D D' s f u) (h1 : s ≤ 400) (h2 : f ≤ 1) (h3 : u ≤ 5100) : Bud D' (i + 1) :=
  ⟨by have := h.s0; have := c.s0; omega, by have := h.s1; have := c.s1; omega, by have := h.f; have := c.f; omega, by have := h.u; have := c.u; omega, c.l0, by have := h.l1; have := c.l1; omega⟩
theorem Bud.fit {D : DiskD} {i : Nat} (h : Bud D i) (hi : i ≤ 64) : FitN D 1000 :=
  ⟨h.s0, by have := h.s1; omega, by have := h.f; omega, by have := h.u; omega, h.l0, by have := h.l1; omega⟩
theorem Bud.less {D : DiskD} {i j : Nat} (h : Bud D i) (hi : i ≤ j) : Bud D j :=
  ⟨h.s0, by have := h.s1; omega, by have := h.f; omega, by have := h.u; omega, h.l0, h.l1⟩
theorem Bud.left {D : DiskD} {i : Nat} (h : Bud D i) (z : Int) (hz : z ≤ 8) (off : Bool) : Bud { D with left := max (-1) z, off := off } i :=
  ⟨h.s0, h.s1, h.f, h.u, by show -1 ≤ max (-1) z; omega, by show max (-1) z ≤ 8; omega⟩
/-- the two stores -/
def Sto (B : Nat) (wr : World) (p q : Nat) (E : Int) (s7 s9 : Value) : Prop :=
  (E ≠ 0 ∧ s7 = .pointer none ∧ s9 = .pointer none) ∨
  (E = 0 ∧ ∃ gs gr S, s7 = .pointer (some ⟨gs, 0, none⟩) ∧ s9 = .pointer (some ⟨gr, 0, none⟩) ∧ StIs wr gs p S ∧ RSt wr gr q S ∧ StOk S ∧ B ≤ gs ∧ B ≤ gr)
/-- the two disks side by side -/
structure PlS (w wr : World) (p q : Nat) (v : Value) (D : DiskD) (R : RDisk) (E : Int) (s7 s9 : Value) : Prop where
  is : DiskIs wr w.heap.size p v D
  rk : RkIs wr w.heap.size q R
  below : Below w.heap.size w wr
  sto : Sto w.heap.size wr p q E s7 s9
section
variable {w wr w2 : World} {p q gs gr : Nat} {v v2 : Value} {D D2 : DiskD} {R R2 : RDisk} {E E2 : Int} {s7 s9 : Value} {S S2 : StD}
theorem PlS.hB (a : PlS w wr p q v D R E s7 s9) : w.heap.size ≤ wr.heap.size := a.below.size
theorem PlS.below_ (a : PlS w wr p q v D R E s7 s9) (hb : Below wr.heap.size wr w2) : PlS w w2 p q v D R E s7 s9 := by
  refine ⟨a.is.below hb (Nat.le_refl _), a.rk.below hb, a.below.trans (hb.mono a.hB), ?_⟩
  rcases a.sto with h | ⟨h0, gs, gr, S, h1, h2, h3, h4, h5⟩
  · exact .inl h
  · exact .inr ⟨h0, gs, gr, S, h1, h2, h3.below hb, Blk.below h4 hb (Blk.lt h4), h5⟩
theorem PlS.out (a : PlS w wr p q v D R E s7 s9) (o : Out w.heap.size wr w2 p v D2 v2) (hs : wr.heap.size ≤ w2.heap.size) : PlS w w2 p q v2 D2 R E s7 s9 := by
  refine ⟨o.is, o.rk hs a.rk, a.below.trans o.below, ?_⟩
  rcases a.sto with h | ⟨h0, gs, gr, S, h1, h2, h3, h4, h5⟩
  · exact .inl h
  · exact .inr ⟨h0, gs, gr, S, h1, h2, h3.out o, o.keep_blk h4 (by decide) (by decide), h5⟩
theorem PlS.rout (a : PlS w wr p q v D R E s7 s9) (o : RkOut w.heap.size wr w2 q R2) : PlS w w2 p q v D R2 E s7 s9 := by
  refine ⟨o.disk a.rk a.is, o.is, a.below.trans (o.belowB a.hB), ?_⟩
  rcases a.sto with h | ⟨h0, gs, gr, S, h1, h2, h3, h4, h5⟩
  · exact .inl h
  · exact .inr ⟨h0, gs, gr, S, h1, h2, o.keep_blk a.rk h3 (by decide), o.keep_blk a.rk h4 (by decide), h5⟩
theorem Aft.rk {B : Nat} (a : Aft B gs wr w2 p v S2 D2 v2) (hs : wr.heap.size ≤ w2.heap.size) (hst : StIs wr gs p S) (h : RkIs wr B q R) : RkIs w2 B q R := by
  obtain ⟨vf, vs, hb⟩ := h.blk
  refine h.keep ⟨hs, fun b cs t fz ht hh => a.blk b cs t fz (fun e => ?_) (by rcases ht with rfl | rfl <;> decide) (by rcases ht with rfl | rfl <;> decide) hh⟩ (a.blk q _ _ _ (fun e => ?_) (by decide) (by decide) hb)
  · subst e
    rcases ht with rfl | rfl
    · exact blk_type hst hh (by decide)
    · exact blk_type hst hh (by decide)
  · subst e; exact blk_type hst hb (by decide)
theorem RAft.disk {B : Nat} (a : RAft B gr wr w2 q S2 R2) (h0 : RkIs wr B q R) (hst : RSt wr gr q S) {B2 : Nat} (hd : DiskIs wr B2 p v D) : DiskIs w2 B2 p v D := by
  obtain ⟨vf, vs, hb⟩ := h0.blk
  obtain ⟨rows, hr, hR⟩ := hd.row
  have hty := own_type hR.1 (t := 67) (by decide)
  have hty2 := own_type hR.1 (t := 49) (by decide)
  have hm : Moved wr w2 q (some gr) := ⟨a.below.os, a.below.tape, a.below.output, a.below.size, fun k hk h1 h2 => a.blk k hk h1 fun e => h2 (by rw [e])⟩
  exact hd.keep hm (fun e => by subst e; exact blk_type hd.blk hb (by decide)) (fun e => by injection e with e; subst e; exact blk_type hd.blk hst (by decide))
    (fun k hk => ⟨fun e => by subst e; exact hty k hk _ _ hb, fun e => by injection e with e; subst e; exact hty2 k hk _ _ hst⟩) (fun _ _ hh => blk_type hb hh (by decide)) (fun n hn cs fz hh => by injection hn with hn; subst hn; exact blk_type hst hh (by decide))
end
end Go.Proofs.YtlcgkcafelpglaaGreatDoor
