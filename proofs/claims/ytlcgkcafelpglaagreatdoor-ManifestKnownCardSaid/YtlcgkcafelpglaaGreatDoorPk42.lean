/- The calls of ManifestPlays, each over the two disks side by side. The laws' bound on rows of calls: large. -/
import Derived.Test.YtlcgkcafelpglaaGreatDoorMaBd
import Derived.Test.YtlcgkcafelpglaaGreatDoorPk41
import Derived.Deep.LoopGhost
import Derived.Deep.QuietTactic
import Derived.BigQuiet
import Derived.IntWalk
namespace Go.Proofs.YtlcgkcafelpglaaGreatDoor
open Go.RowKit Go.Maps

/-- calls that lie in memory stay -/
def KpC (wa wb : World) : Prop := ∀ g cs, Blk wa g 42 cs → Blk wb g 42 cs
theorem KpC.of_below {wa wb : World} (h : Below wa.heap.size wa wb) : KpC wa wb := fun _ _ hk => hk.below h hk.lt
theorem KpC.trans {wa wb wc : World} (h : KpC wa wb) (k : KpC wb wc) : KpC wa wc := fun g cs x => k g cs (h g cs x)
theorem Out.kpC {B p : Nat} {wa wb : World} {v v1 : Value} {D1 : DiskD} (o : Out B wa wb p v D1 v1) : KpC wa wb := fun _ _ hk => o.keep_blk hk (by decide) (by decide)
theorem RkOut.kpC {B p : Nat} {wa wb : World} {R R1 : RDisk} (o : RkOut B wa wb p R1) (h : RkIs wa B p R) : KpC wa wb := fun _ _ hk => o.keep_blk h hk (by decide)
theorem Aft.kpC {B gs p : Nat} {wa wb : World} {v v1 : Value} {S S1 : StD} {D1 : DiskD} (a : Aft B gs wa wb p v S1 D1 v1) (hs : StIs wa gs p S) : KpC wa wb :=
  fun g cs hk => (a.blk g cs _ _ (fun e => by subst e; exact blk_type hs hk (by decide)) (by decide) (by decide) hk).trans hk
theorem RAft.kpC {B gs p : Nat} {wa wb : World} {S S1 : StD} {R R1 : RDisk} (a : RAft B gs wa wb p S1 R1) (h : RkIs wa B p R) (hs : RSt wa gs p S) : KpC wa wb := by
  obtain ⟨vf, vs, hb⟩ := h.blk
  exact fun g cs hk => (a.blk g hk.lt (fun e => by subst e; exact blk_type hb hk (by decide)) (fun e => by subst e; exact blk_type hs hk (by decide))).trans hk
theorem write_ok {D : DiskD} {S : StD} {m : ManM} (h : StOk S) (hm : m.Ok) : StOk (writeD D S m).2.2 := by
  have ho : ∀ E D', StOk (outD E D' S).2.2 := fun E D' => by
    unfold outD; split
    · exact h
    · exact h
  unfold writeD
  split
  · exact h
  · rename_i hy
    have hn : StOk ⟨nextM S m, true⟩ := ⟨fun _ => next_good h hm (by simpa using hy), fun e => by cases e⟩
    split
    · exact ho _ _
    · split
      · exact ho _ _
      · split
        · exact ho _ _
        · split
          · exact ho _ _
          · split
            · exact hn
            · exact hn
def STO0 (w wr : World) (p q : Nat) (v : Value) (D : DiskD) (R : RDisk) : Prop := PlS w wr p q v D R 1 (.pointer none) (.pointer none)
/-- the program's store behind an opening -/
def Half (B : Nat) (wr : World) (p : Nat) (s7 : Value) (D : DiskD) : Prop :=
  ((openD D).1 ≠ 0 ∧ s7 = .pointer none) ∨ ((openD D).1 = 0 ∧ ∃ gs, s7 = .pointer (some ⟨gs, 0, none⟩) ∧ StIs wr gs p (newestD D) ∧ B ≤ gs)
section
variable {w wr w2 : World} {p q gs gr : Nat} {v v2 : Value} {D D2 : DiskD} {R R2 : RDisk} {E E2 : Int} {s7 s9 : Value} {S S2 : StD}
theorem PlS.zero (a : PlS w wr p q v D R E s7 s9) : STO0 w wr p q v D R := ⟨a.is, a.rk, a.below, .inl ⟨by decide, rfl, rfl⟩⟩
theorem pl_fail (a : PlS w wr p q v D R E s7 s9) (z : Int) : Calls Tryz.prog 14 #[.pointer (some ⟨p, 0, none⟩), .int .i64 z] wr fun e w' => e = .returned (.tuple #[]) ∧ ∃ v', PlS w w' p q v' { D with left := max (-1) z } R E s7 s9 ∧ KpC wr w' :=
  (d_fail a.is a.hB z rfl).mono fun _ _ ⟨he, v', o⟩ => ⟨he, v', a.out o o.below.size, o.kpC⟩
theorem pl_rfail (a : PlS w wr p q v D R E s7 s9) (z : Int) : Calls Tryz.prog 15 #[.pointer (some ⟨q, 0, none⟩), .int .i64 z] wr fun e w' => e = .returned (.tuple #[]) ∧ PlS w w' p q v D { R with left := max (-1) z } E s7 s9 ∧ KpC wr w' :=
  (rfail_any wr _ q R a.rk z).mono fun _ _ ⟨he, o⟩ => ⟨he, a.rout o, o.kpC a.rk⟩
theorem pl_crash (a : PlS w wr p q v D R E s7 s9) : Calls Tryz.prog 18 #[.pointer (some ⟨p, 0, none⟩)] wr fun e w' => e = .returned (.tuple #[]) ∧ ∃ v', PlS w w' p q v' { D with off := true, left := -1 } R E s7 s9 ∧ KpC wr w' :=
  (d_crash a.is a.hB rfl).mono fun _ _ ⟨he, v', o⟩ => ⟨he, v', a.out o o.below.size, o.kpC⟩
theorem pl_rcrash (a : PlS w wr p q v D R E s7 s9) : Calls Tryz.prog 19 #[.pointer (some ⟨q, 0, none⟩)] wr fun e w' => e = .returned (.tuple #[]) ∧ PlS w w' p q v D { R with gone := true, left := -1 } E s7 s9 ∧ KpC wr w' :=
  (rcrash_any wr _ q R a.rk).mono fun _ _ ⟨he, o⟩ => ⟨he, a.rout o, o.kpC a.rk⟩
theorem pl_append (a : PlS w wr p q v D R E s7 s9) (hf : FitN D 1) {t b : ByteArray} {A : Option Addr} {c : Nat} (hb : BtR w (.slice A b.size c) b) (hs : b.size ≤ 5000) :
    Calls Tryz.prog 16 #[.pointer (some ⟨p, 0, none⟩), .string t, .slice A b.size c] wr fun e w' => ∃ E', e = .returned (.int .i64 E') ∧ ∃ v', PlS w w' p q v' (D.append t b).2 R E s7 s9 ∧ KpC wr w' :=
  (d_append a.is a.hB hf.fit (by have := hf.used; omega) (hb.below a.below) (by omega) (E := (D.append t b).1) (D' := (D.append t b).2) rfl).mono fun _ _ ⟨he, v', o⟩ => ⟨_, he, v', a.out o o.below.size, o.kpC⟩
theorem pl_rappend (a : PlS w wr p q v D R E s7 s9) (hf : RFit R) {t b : ByteArray} {A : Option Addr} {c : Nat} (hb : BtR w (.slice A b.size c) b) (hs : b.size ≤ 5000) :
    Calls Tryz.prog 17 #[.pointer (some ⟨q, 0, none⟩), .string t, .slice A b.size c] wr fun e w' => ∃ E', e = .returned (.int .i64 E') ∧ PlS w w' p q v D (R.append t b).2 E s7 s9 ∧ KpC wr w' :=
  (rappend_any wr _ q R a.rk hf t _ b (hb.below a.below) (by omega)).mono fun _ _ ⟨he, o⟩ => ⟨_, he, a.rout o, o.kpC a.rk⟩
theorem rd_block {A : Option Addr} {n : Nat} {xs : List Value} {p : Nat} (h : Rd w 1 A n xs) (hp : w.heap.size ≤ p) : 0 < n → ∀ ad, A = some ad → ad.block ≠ p := fun h0 ad he => by
  obtain ⟨ad2, he2, hb, -⟩ := h.2 h0
  rw [he] at he2
  injection he2 with he2
  subst he2
  omega
theorem pl_on (a : PlS w wr p q v D R E s7 s9) (hsim : Sim D R) (hf : FitN D 1) {A : Option Addr} {c : Nat} {ks : List Int} (hk : Rd w 1 A ks.length (ks.map (Value.int .i64))) (hl : ks.length ≤ 5000) :
    Calls Tryz.prog 20 #[.pointer (some ⟨p, 0, none⟩), .slice A ks.length c] wr fun e w' => e = .returned (.tuple #[]) ∧ ∃ v', PlS w w' p q v' (D.on ks) R E s7 s9 ∧ KpC wr w' :=
  (d_on0 a.is a.hB hf.fit hsim.ok (hk.below a.below) (rd_block hk a.is.1) (by omega) rfl).mono fun _ _ ⟨he, v', o⟩ => ⟨he, v', a.out o o.below.size, o.kpC⟩
theorem pl_ron (a : PlS w wr p q v D R E s7 s9) (hso : SafeR R) (hf : RFit R) {A : Option Addr} {c : Nat} {ks : List Int} (hk : Rd w 1 A ks.length (ks.map (Value.int .i64))) (hl : ks.length ≤ 5000) :
    Calls Tryz.prog 21 #[.pointer (some ⟨q, 0, none⟩), .slice A ks.length c] wr fun e w' => e = .returned (.tuple #[]) ∧ PlS w w' p q v D (R.on ks) E s7 s9 ∧ KpC wr w' :=
  (ron_any wr _ q R a.rk hf hso A c ks (hk.below a.below) (rd_block hk a.rk.1) (by omega)).mono fun _ _ ⟨he, o⟩ => ⟨he, a.rout o, o.kpC a.rk⟩
theorem pl_open (a : PlS w wr p q v D R E s7 s9) (hf : FitN D (D.files.length + 1)) (hT : Tb w.heap.size w) :
    Calls Tryz.prog 9 #[.pointer (some ⟨p, 0, none⟩)] wr fun e w' => ∃ s7', e = .returned (.tuple #[s7', .int .i64 (openD D).1]) ∧ (∃ v', STO0 w w' p q v' (openD D).2 R) ∧ Half w.heap.size w' p s7' D ∧ KpC wr w' := by
  have hfin : ∀ e w', OpenP w.heap.size wr p v D e w' → ∃ s7', e = .returned (.tuple #[s7', .int .i64 (openD D).1]) ∧ (∃ v', STO0 w w' p q v' (openD D).2 R) ∧ Half w.heap.size w' p s7' D ∧ KpC wr w' := fun e w' hP => by
    obtain ⟨v1, o, hc⟩ := hP
    have hz := (a.out o o.below.size).zero
    rcases hc with ⟨h0, he⟩ | ⟨h0, gs, he, hg, hst⟩
    · exact ⟨_, he, ⟨v1, hz⟩, .inl ⟨h0, rfl⟩, o.kpC⟩
    · exact ⟨_, by rw [h0]; exact he, ⟨v1, hz⟩, .inr ⟨h0, gs, rfl, hst, Nat.le_trans a.hB hg⟩, o.kpC⟩
  cases ho : D.off with
  | true => exact (open_off wr _ p v D a.is a.hB ho).mono hfin
  | false => exact (open_on wr _ p v D a.is a.hB ho hf (hT.on a.below)).mono hfin
theorem pl_ropen (a : STO0 w wr p q v D2 R) (hh : Half w.heap.size wr p s7 D) (hsim : Sim D R) (hf : FitN D (D.files.length + 1)) :
    Calls Tryz.prog 10 #[.pointer (some ⟨q, 0, none⟩)] wr fun e w' => ∃ s9', e = .returned (.tuple #[s9', .int .i64 (openD D).1]) ∧ PlS w w' p q v D2 (openR R).2 (openD D).1 s7 s9' ∧ KpC wr w' := by
  have hE := (sim_open hsim).1
  have hfin : D.off = false ∨ (openR R).1 ≠ 0 → ∀ e w', OpenRP w.heap.size wr q R e w' → ∃ s9', e = .returned (.tuple #[s9', .int .i64 (openD D).1]) ∧ PlS w w' p q v D2 (openR R).2 (openD D).1 s7 s9' ∧ KpC wr w' := fun hoff e w' hP => by
    obtain ⟨o, hc⟩ := hP
    have hz := a.rout o
    rcases hc with ⟨h0, he⟩ | ⟨h0, gr, he, hg, hst⟩
    · refine ⟨_, by rw [hE]; exact he, ⟨hz.is, hz.rk, hz.below, ?_⟩, o.kpC a.rk⟩
      rcases hh with ⟨h1, h2⟩ | ⟨h1, _⟩
      · exact .inl ⟨h1, h2, rfl⟩
      · exact absurd (hE ▸ h1) h0
    · refine ⟨_, by rw [hE, h0]; exact he, ⟨hz.is, hz.rk, hz.below, ?_⟩, o.kpC a.rk⟩
      rcases hh with ⟨h1, _⟩ | ⟨h1, gs, h2, h3, h4⟩
      · exact absurd (hE.trans h0) h1
      · have ho : D.off = false := hoff.resolve_right fun e => e h0
        have hn := sim_newest hsim ho
        exact .inr ⟨h1, gs, gr, newestD D, h2, rfl, o.keep_blk a.rk h3 (by decide), by rw [hn]; exact hst, by rw [hn]; exact newestR_ok R, h4, Nat.le_trans a.hB hg⟩
  cases ho : D.off with
  | true =>
    have hg : R.gone = true := by rw [hsim.off, ho]
    exact (ropen_off wr _ q R a.rk hg).mono (hfin (.inr (by unfold openR; rw [if_pos hg]; exact (by decide : (160 : Int) ≠ 0))))
  | false =>
    have hg : R.gone = false := by rw [hsim.off, ho]
    exact (ropen_on wr _ q D R a.rk hg hsim hf).mono (hfin (.inl ho))
theorem pl_write (a : PlS w wr p q v D R E s7 s9) (hf : FitN D 6) (hT : Tb w.heap.size w) (hs : StIs wr gs p S) (hg : w.heap.size ≤ gs) (hr : RSt wr gr q S) (hS : StOk S) {m : ManM} (hm : m.Ok) :
    Calls Tryz.prog 22 #[.pointer (some ⟨gs, 0, none⟩), .agg (mCells m)] wr fun e w' => e = .returned (.int .i64 (writeD D S m).1) ∧ (∃ v', STO0 w w' p q v' (writeD D S m).2.1 R) ∧ StIs w' gs p (writeD D S m).2.2 ∧ RSt w' gr q S ∧ KpC wr w' :=
  (write_any wr _ p gs v D S m a.is hg hs hf (hT.on a.below) hm hS.nn).mono fun _ _ ⟨he, v1, ha⟩ =>
    ⟨he, ⟨v1, ha.is, ha.rk ha.below.size hs a.rk, a.below.trans ha.below, .inl ⟨by decide, rfl, rfl⟩⟩, ha.st,
      (ha.blk gr _ _ _ (fun e => by subst e; exact blk_type hs hr (by decide)) (by decide) (by decide) hr).trans hr, ha.kpC hs⟩
theorem pl_rwrite (a : STO0 w wr p q v D2 R) (hsim : Sim D R) (hf : FitN D 6) (hs : StIs wr gs p S2) (hg : w.heap.size ≤ gs) (hr : RSt wr gr q S) (hgr : w.heap.size ≤ gr) (hS : StOk S) {m : ManM} (hm : m.Ok) (hS2 : S2 = (writeD D S m).2.2) :
    Calls Tryz.prog 23 #[.pointer (some ⟨gr, 0, none⟩), .agg (mCells m)] wr fun e w' => e = .returned (.int .i64 (writeD D S m).1) ∧ PlS w w' p q v D2 (writeR R S m).2.1 0 (.pointer (some ⟨gs, 0, none⟩)) (.pointer (some ⟨gr, 0, none⟩)) ∧ KpC wr w' := by
  obtain ⟨h1, h2, -⟩ := sim_write hsim S m
  refine (rwrite_any wr _ q gr D R S m a.rk hgr hr hsim hf hm hS.nn).mono fun _ w' ⟨he, ha⟩ => ?_
  obtain ⟨vf, vs, hb⟩ := a.rk.blk
  have hs' : StIs w' gs p S2 := (ha.blk gs (Blk.lt hs) (fun e => by subst e; exact blk_type hs hb (by decide)) (fun e => by subst e; exact blk_type hs hr (by decide))).trans hs
  exact ⟨by rw [h1]; exact he, ⟨ha.disk a.rk hr a.is, ha.is, a.below.trans ha.below, .inr ⟨rfl, gs, gr, S2, rfl, rfl, hs', by rw [hS2, h2]; exact ha.st, by rw [hS2]; exact write_ok hS hm, hg, hgr⟩⟩, ha.kpC a.rk hr⟩
end
end Go.Proofs.YtlcgkcafelpglaaGreatDoor
namespace Go.Proofs.YtlcgkcafelpglaaGreatDoor
open Go.RowKit Go.Maps

def SmallC (l : List CallM) : Prop := l.length ≤ 60 ∧ ∀ c ∈ l, c.name.size ≤ 5000 ∧ c.b.size ≤ 5000 ∧ c.keep.length ≤ 5000
/-- how large ends -/
def LargeP (l : List CallM) (w : World) (e : Ending) (w' : World) : Prop := ∃ b : Bool, e = .returned (.bool b) ∧ Below w.heap.size w w' ∧ (b = false → SmallC l)
def LgInv (l : List CallM) (i : Nat) (n : Int) : Prop := ∀ k c, k < i → l[k]? = some c → min (c.name.size : Int) 5001 ≤ n ∧ min (c.b.size : Int) 5001 ≤ n ∧ min (c.keep.length : Int) 5001 ≤ n
theorem LgInv.step {l : List CallM} {i : Nat} {n n' : Int} {c : CallM} (h : LgInv l i n) (hc : l[i]? = some c) (hn : n ≤ n') (h1 : min (c.name.size : Int) 5001 ≤ n') (h2 : min (c.b.size : Int) 5001 ≤ n') (h3 : min (c.keep.length : Int) 5001 ≤ n') : LgInv l (i + 1) n' := by
  intro k c' hk hc'
  by_cases hki : k = i
  · subst hki
    rw [hc] at hc'
    injection hc' with hc'
    subst hc'
    exact ⟨h1, h2, h3⟩
  · obtain ⟨a, b, d⟩ := h k c' (by omega) hc'
    exact ⟨by omega, by omega, by omega⟩
theorem LgInv.done {l : List CallM} {n : Int} (h : LgInv l l.length n) (hn : n ≤ 5000) (hl : l.length ≤ 60) : SmallC l := by
  refine ⟨hl, fun c hc => ?_⟩
  obtain ⟨i, hi, rfl⟩ := List.mem_iff_getElem.1 hc
  obtain ⟨a, b, d⟩ := h i _ hi (List.getElem?_eq_getElem hi)
  omega
set_option maxRecDepth 100000 in
set_option maxHeartbeats 4000000 in
theorem large_any (w : World) (A : Option Addr) (c : Nat) (l : List CallM) (hA : CallsA w A l) :
    Calls Tryz.prog 5 #[.slice A l.length c] w (LargeP l w) := by
  have HA := Lib.hid hA
  clear hA
  by_cases hl : l.length ≤ 60
  · have hlI : ¬ (60 : Int) < (l.length : Int) := by omega
    go_enter Tryz.func5, Tryz.ntmps5
    go_wp2
    go_loopg [3, 4] l.length (fun gf vn vi wr => ∃ (i : Nat) (n : Int), vn = .int .i64 n ∧ vi = .int .i64 i ∧ i + gf = l.length ∧ 0 ≤ n ∧ n ≤ 20004 ∧ LgInv l i n ∧ Below w.heap.size w wr)
    case atStart => exact ⟨0, 0, rfl, rfl, by omega, by decide, by decide, (fun k c hk => absurd hk (Nat.not_lt_zero k)), Below.refl _ _⟩
    case round =>
      obtain ⟨i, n, rfl, rfl, hi, hn0, hn1, hinv, hb⟩ := hrel
      have HB := Lib.hid hb; have HI := Lib.hid hinv
      clear hb hinv
      cases gk with
      | zero =>
        obtain rfl : i = l.length := by omega
        clear hi
        by_cases hn : n ≤ 5000
        · have hnb : decide ((5000 : Int) < n) = false := decide_eq_false (by omega)
          have hn' : ¬ (5000 : Int) < n := by omega
          go_wp2
          go_ret
          exact ⟨false, rfl, HB.out, fun _ => HI.out.done hn hl⟩
        · have hnb : decide ((5000 : Int) < n) = true := decide_eq_true (by omega)
          have hn' : (5000 : Int) < n := by omega
          go_wp2
          go_ret
          exact ⟨true, rfl, HB.out, fun e => by cases e⟩
      | succ gf =>
        obtain ⟨x, hx⟩ : ∃ x, l[i]? = some x := ⟨_, List.getElem?_eq_getElem (by omega)⟩
        obtain ⟨bb, oo, rfl, hlt, hcl⟩ := (HA.out.below HB.out) (by omega)
        have hcx := hcl i x hx
        have hiI : (i : Int) < (l.length : Int) := by omega
        have hcn := hcx.name
        obtain ⟨A1, cc1, hcb, -⟩ := hcx.bs
        obtain ⟨A2, cc2, hck, -⟩ := hcx.keep
        have HX := Lib.hid hx
        clear hcx hcl hx
        by_cases hn : n ≤ 5000
        · obtain ⟨x1, hx1⟩ : ∃ x1, min (x.name.size : Int) 5001 = x1 := ⟨_, rfl⟩
          obtain ⟨x2, hx2⟩ : ∃ x2, min (x.b.size : Int) 5001 = x2 := ⟨_, rfl⟩
          obtain ⟨x3, hx3⟩ : ∃ x3, min (x.keep.length : Int) 5001 = x3 := ⟨_, rfl⟩
          have b1 : 0 ≤ x1 ∧ x1 ≤ 5001 := by omega
          have b2 : 0 ≤ x2 ∧ x2 ≤ 5001 := by omega
          have b3 : 0 ≤ x3 ∧ x3 ≤ 5001 := by omega
          have hst := HI.out.step HX.out (n' := n + 1 + x1 + x2 + x3) (by omega) (by omega) (by omega) (by omega)
          have HST := Lib.hid hst
          have hle : n + 1 + x1 + x2 + x3 ≤ 20004 ∧ 0 ≤ n + 1 + x1 + x2 + x3 := by omega
          have hdb : decide (n ≤ (5000 : Int)) = true := decide_eq_true hn
          have hm1 : min (5001 : Int) (x.name.size : Int) = x1 := by omega
          have hm2 : min (5001 : Int) (x.b.size : Int) = x2 := by omega
          have hm3 : min (5001 : Int) (x.keep.length : Int) = x3 := by omega
          have w1 : IntKind.i64.wrap (n + 1) = n + 1 := IntWalk.i64_in _ (by omega)
          have w2 : IntKind.i64.wrap (n + 1 + x1) = n + 1 + x1 := IntWalk.i64_in _ (by omega)
          have w3 : IntKind.i64.wrap (n + 1 + x1 + x2) = n + 1 + x1 + x2 := IntWalk.i64_in _ (by omega)
          have w4 : IntKind.i64.wrap (n + 1 + x1 + x2 + x3) = n + 1 + x1 + x2 + x3 := IntWalk.i64_in _ (by omega)
          clear hst
          go_upto_region 7 with (fail)
          go_quiet (fail)
          clear w1 w2 w3 w4
          go_wp2
          go_roundg gf
          case measure => omega
          case rel => exact ⟨i + 1, n + 1 + x1 + x2 + x3, rfl, by go_num, by omega, hle.2, hle.1, HST.out, below_drewN HB.out _⟩
        · have hdb : decide (n ≤ (5000 : Int)) = false := decide_eq_false hn
          have hn' : (5000 : Int) < n := by omega
          have hnb : decide ((5000 : Int) < n) = true := decide_eq_true (by omega)
          go_wp2
          go_ret
          exact ⟨true, rfl, HB.out, fun e => by cases e⟩
  · have hlI : (60 : Int) < (l.length : Int) := by omega
    go_enter Tryz.func5, Tryz.ntmps5
    go_wp2
    go_ret
    exact ⟨true, rfl, Below.refl _ _, fun e => by cases e⟩
end Go.Proofs.YtlcgkcafelpglaaGreatDoor
