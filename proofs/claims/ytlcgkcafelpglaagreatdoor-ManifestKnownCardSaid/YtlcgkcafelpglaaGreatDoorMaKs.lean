/- A store of manifests over a disk that may be armed, or off, as the rounds of the stage's law see it: Fail, Crash, On, Open, Write. -/
import Derived.Test.YtlcgkcafelpglaaGreatDoorPk37
namespace Go.Proofs.YtlcgkcafelpglaaGreatDoor
open Go.RowKit Go.Maps

set_option maxHeartbeats 1000000 in
theorem fail_any (w : World) (base p : Nat) (v : Value) (D : DiskD) (h : DiskIs w base p v D) (z : Int) :
    Calls Tryz.prog 14 #[.pointer (some ⟨p, 0, none⟩), .int .i64 z] w fun e w' => e = .returned (.tuple #[]) ∧ DiskIs w' base p v { D with left := max (-1) z } ∧ Moved w w' p none := by
  have hb := h.blk
  have c3 := hb.cell 3
  simp only [List.getElem?_toArray, List.getElem?_cons_zero, List.getElem?_cons_succ] at c3
  have f3 := hb.frozen 3
  have hm := Moved.set_ w p 3 none (.int .i64 (max (-1) z))
  have hk := hb.set_ 3 (.int .i64 (max (-1) z))
  have hD := h.set_ (D' := { D with left := max (-1) z }) hm hk rfl
  have HD := Lib.hid hD; have HM := Lib.hid hm
  clear hD hm hk h hb
  go_enter Tryz.func14, Tryz.ntmps14
  go_wp2
  go_end0
  exact ⟨rfl, HD.out, HM.out⟩
theorem d_fail {w : World} {B p : Nat} {v : Value} {D D' : DiskD} (h : DiskIs w B p v D) (hB : B ≤ w.heap.size) (z : Int) (hE : { D with left := max (-1) z } = D') :
    Calls Tryz.prog 14 #[.pointer (some ⟨p, 0, none⟩), .int .i64 z] w fun e w' => e = .returned (.tuple #[]) ∧ ∃ v1, Out B w w' p v D' v1 :=
  (fail_any w B p v D h z).mono fun e w' ⟨he, hd, hm⟩ => by
    rw [hE] at hd
    exact ⟨he, Leaves.out h hB ⟨v, hd, ⟨hm.os, hm.tape, hm.output, hm.size, fun k hk hkp _ => hm.block k hk hkp (by simp)⟩, own_new (.inl rfl)⟩⟩
/-- others' manifests, and stores, stay -/
def KpM (wa wb : World) : Prop := ∀ g cs, Blk wa g 38 cs → Blk wb g 38 cs
def KpS (wa wb : World) (p : Nat) : Prop := ∀ g S, StIs wa g p S → StIs wb g p S
/-- the disk of the stage's law -/
structure KD (w wx : World) (p : Nat) (v : Value) (L : List FileD) (n l : Int) (off : Bool) (S : StD) (G : List FileD) : Prop where
  is : DiskIs wx w.heap.size p v ⟨L, 1048576, n, l, off⟩
  below : Below w.heap.size w wx
  ok : StOk S
  g : GOk G S
  has : Has L (G ++ (keptF S ++ []))
  n0 : 0 ≤ n
  l0 : -1 ≤ l
  l1 : l ≤ 9223372036854775807
theorem KpM.of_below {wa wb : World} (h : Below wa.heap.size wa wb) : KpM wa wb := fun _ _ hk => hk.below h hk.lt
theorem KpM.trans {wa wb wc : World} (h : KpM wa wb) (k : KpM wb wc) : KpM wa wc := fun g cs x => k g cs (h g cs x)
theorem KpS.of_below {wa wb : World} {p : Nat} (h : Below wa.heap.size wa wb) : KpS wa wb p := fun _ _ hk => hk.below h
theorem KpS.trans {wa wb wc : World} {p : Nat} (h : KpS wa wb p) (k : KpS wb wc p) : KpS wa wc p := fun g S x => k g S (h g S x)
theorem Out.kp {B p : Nat} {wa wb : World} {v v1 : Value} {D1 : DiskD} (o : Out B wa wb p v D1 v1) : KpM wa wb ∧ KpS wa wb p :=
  ⟨fun _ _ h => o.keep_blk h (by decide) (by decide), fun _ _ h => h.out o⟩
theorem Aft.kpM {B gs p : Nat} {wa wb : World} {v v1 : Value} {S S1 : StD} {D1 : DiskD} (a : Aft B gs wa wb p v S1 D1 v1) (hs : StIs wa gs p S) : KpM wa wb :=
  fun g cs h => (a.blk g cs _ _ (fun e => by subst e; exact (Blk.ne_ h hs (by decide)) rfl) (by decide) (by decide) h).trans h
theorem gok_used {G : List FileD} {S : StD} (h : GOk G S) : usedL G ≤ 50 ∧ G.length ≤ 1 := by
  rcases h with (rfl | ⟨b, s, rfl, hb, _⟩) | ⟨m, rfl, _⟩
  · exact ⟨Nat.zero_le _, Nat.zero_le _⟩
  · exact ⟨by simp [usedL]; omega, Nat.le_refl _⟩
  · exact ⟨by simp [usedL, fileM, m.bytes_size], Nat.le_refl _⟩
section
variable {w wr w2 : World} {p gs : Nat} {v v2 : Value} {n l : Int} {L G : List FileD} {S : StD} {m : ManM} {off : Bool}
theorem KD.below_ (a : KD w wr p v L n l off S G) (hb : Below wr.heap.size wr w2) : KD w w2 p v L n l off S G :=
  ⟨a.is.below hb (Nat.le_refl _), a.below.trans (hb.mono a.below.size), a.ok, a.g, a.has, a.n0, a.l0, a.l1⟩
theorem KD.small (a : KD w wr p v L n l off S G) : usedL L ≤ 100 ∧ L.length ≤ 2 := by
  have h1 := gok_used a.g
  have h2 := a.has.used; have h3 := a.has.length
  rw [usedL_append, List.append_nil] at h2
  rw [List.append_nil, List.length_append] at h3
  unfold keptF at h2 h3
  split at h2
  · rename_i hs
    rw [if_pos hs] at h3
    have : usedL [fileM S.m] = 50 := by simp [usedL, fileM, S.m.bytes_size]
    simp at h3
    omega
  · rename_i hs
    rw [if_neg hs] at h3
    have : usedL ([] : List FileD) = 0 := rfl
    simp at h3
    omega
theorem KD.fit (a : KD w wr p v L n l off S G) (hn : n ≤ 1000000) : FitN ⟨L, 1048576, n, l, off⟩ 100 :=
  ⟨a.n0, by show n + 100 ≤ _; omega, by have := a.small.2; show L.length + 100 ≤ _; omega, by have := a.small.1; show usedL L + 100 * 100 ≤ _; omega, a.l0, a.l1⟩
theorem KD.hB (a : KD w wr p v L n l off S G) : w.heap.size ≤ wr.heap.size := a.below.size
theorem k_out {D1 : DiskD} {v1 : Value} (a : KD w wr p v L n l off S G) (o : Out w.heap.size wr w2 p v D1 v1) : Below w.heap.size w w2 := a.below.trans o.below
/-- what a call leaves that answers nothing -/
theorem k_fail (a : KD w wr p v L n l off S G) (z : Int) (hz : z ≤ 9223372036854775807) :
    Calls Tryz.prog 14 #[.pointer (some ⟨p, 0, none⟩), .int .i64 z] wr fun e w' => e = .returned (.tuple #[]) ∧ ∃ v', KD w w' p v' L n (max (-1) z) off S G ∧ KpM wr w' ∧ KpS wr w' p := by
  refine (fail_any wr w.heap.size p v _ a.is z).mono fun e w' ⟨he, hd, hm⟩ => ?_
  obtain ⟨v1, o⟩ := Leaves.out a.is a.hB ⟨v, hd, ⟨hm.os, hm.tape, hm.output, hm.size, fun k hk hkp _ => hm.block k hk hkp (by simp)⟩, own_new (.inl rfl)⟩
  obtain ⟨k1, k2⟩ := o.kp
  exact ⟨he, v1, ⟨o.is, a.below.trans o.below, a.ok, a.g, a.has, a.n0, by omega, by omega⟩, k1, k2⟩
theorem k_crash (a : KD w wr p v L n l off S G) :
    Calls Tryz.prog 18 #[.pointer (some ⟨p, 0, none⟩)] wr fun e w' => e = .returned (.tuple #[]) ∧ ∃ v', KD w w' p v' L n (-1) true S G ∧ KpM wr w' ∧ KpS wr w' p := by
  refine (crash_any wr w.heap.size p v _ a.is).mono fun e w' ⟨he, hd, hm⟩ => ?_
  obtain ⟨v1, o⟩ := Leaves.out a.is a.hB ⟨v, hd, ⟨hm.os, hm.tape, hm.output, hm.size, fun k hk hkp _ => hm.block k hk hkp (by simp)⟩, own_new (.inl rfl)⟩
  obtain ⟨k1, k2⟩ := o.kp
  exact ⟨he, v1, ⟨o.is, a.below.trans o.below, a.ok, a.g, a.has, a.n0, by decide, by decide⟩, k1, k2⟩
end
theorem on_has0 {L F : List FileD} {q n l : Int} (ks : List Int) (hF : ∀ f ∈ F, Sure f ∧ f.name ≠ tmpN) (h : Has L F) :
    ∃ L', (⟨L, q, n, l, true⟩ : DiskD).on ks = ⟨L', q, n, -1, false⟩ ∧ Has L' F := by
  have hs := onGo_sorted h.1 ks
  refine ⟨onGo L ks, by unfold DiskD.on; rw [if_pos rfl], hs, h.2.1, fun g => ?_⟩
  rw [mem_onGo]
  constructor
  · rintro ⟨i, f, hi, hg⟩
    have hf : f ∈ F := (h.2.2 f).1 (List.mem_of_getElem? hi)
    rw [kept_sure (hF f hf).1, List.mem_singleton] at hg
    subst hg
    exact hf
  · intro hg
    obtain ⟨i, hi⟩ := List.mem_iff_getElem?.1 ((h.2.2 g).2 hg)
    exact ⟨i, g, hi, by rw [kept_sure (hF g hg).1]; simp⟩
theorem kept_ok {S : StD} (h : StOk S) : ∀ f ∈ keptF S ++ [], Sure f ∧ f.name ≠ tmpN := by
  intro f hf
  rw [List.append_nil] at hf
  obtain ⟨hs, rfl⟩ := kept_mem.1 hf
  exact ⟨fileM_sure _, fileM_tmp (h.1 hs)⟩
theorem on_g {L G : List FileD} {S : StD} {q n l : Int} (ks : List Int) (hS : StOk S) (hG : GOk G S) (h : Has L (G ++ (keptF S ++ []))) :
    ∃ L' G', (⟨L, q, n, l, true⟩ : DiskD).on ks = ⟨L', q, n, -1, false⟩ ∧ GOk G' S ∧ Has L' (G' ++ (keptF S ++ [])) := by
  rcases hG with hT | ⟨m, rfl, hg, hlt, hs⟩
  · obtain ⟨L', T', h1, h2, h3⟩ := on_has (q := q) (n := n) (l := l) ks hT (kept_ok hS) h
    exact ⟨L', T', h1, .inl h2, h3⟩
  · obtain ⟨L', h1, h2⟩ := on_has0 (q := q) (n := n) (l := l) ks (F := [fileM m] ++ (keptF S ++ [])) (fun f hf => by
      rcases List.mem_append.1 hf with hf | hf
      · rw [List.mem_singleton.1 hf]; exact ⟨fileM_sure _, fileM_tmp hg⟩
      · exact kept_ok hS f hf) h
    exact ⟨L', _, h1, .inr ⟨m, rfl, hg, hlt, hs⟩, h2⟩
theorem has_safe {L G : List FileD} {S : StD} (hG : GOk G S) (h : Has L (G ++ (keptF S ++ []))) : ∀ f ∈ L, SafeOk f := by
  intro f hf
  have hsure : ∀ m : ManM, SafeOk (fileM m) := fun m => by
    have := fileM_sure m
    unfold Sure at this
    exact ⟨by rw [this]; omega, by rw [this]; exact Int.le_refl _⟩
  rcases List.mem_append.1 ((h.2.2 f).1 hf) with hf | hf
  · rcases hG with (rfl | ⟨b, s, rfl, _, h2, h3⟩) | ⟨m, rfl, _⟩
    · cases hf
    · rw [List.mem_singleton.1 hf]; exact ⟨h2, h3⟩
    · rw [List.mem_singleton.1 hf]; exact hsure m
  · rw [List.append_nil] at hf
    obtain ⟨_, rfl⟩ := kept_mem.1 hf
    exact hsure S.m
section
variable {w wr w2 : World} {p gs : Nat} {v v2 : Value} {n l : Int} {L G : List FileD} {S : StD} {m : ManM}
theorem k_on (a : KD w wr p v L n l true S G) (hn : n ≤ 1000000) {A : Option Addr} {c : Nat} {keep : List Int} (hk : Rd wr 1 A keep.length (keep.map (Value.int .i64))) (hkp : 0 < keep.length → ∀ ad, A = some ad → ad.block ≠ p) (hkl : keep.length ≤ 100000000) :
    Calls Tryz.prog 20 #[.pointer (some ⟨p, 0, none⟩), .slice A keep.length c] wr fun e w' => e = .returned (.tuple #[]) ∧ ∃ L' G' v', KD w w' p v' L' n (-1) false S G' ∧ KpM wr w' ∧ KpS wr w' p := by
  obtain ⟨L', G', h1, h2, h3⟩ := on_g (q := 1048576) (n := n) (l := l) keep a.ok a.g a.has
  refine (d_on0 a.is a.hB (a.fit hn).fit (has_safe a.g a.has) hk hkp hkl h1).mono fun e w' ⟨he, v1, o⟩ => ?_
  obtain ⟨k1, k2⟩ := o.kp
  exact ⟨he, L', G', v1, ⟨o.is, a.below.trans o.below, a.ok, h2, h3, a.n0, by decide, by decide⟩, k1, k2⟩
end
/-- how Open ends -/
def KOpen (w wr : World) (p : Nat) (L : List FileD) (n l : Int) (S : StD) (G : List FileD) (e : Ending) (w' : World) : Prop :=
  (∃ gs L' n' l' v', e = .returned (.tuple #[.pointer (some ⟨gs, 0, none⟩), .int .i64 0]) ∧ KD w w' p v' L' n' l' false S [] ∧ StIs w' gs p S ∧ w.heap.size ≤ gs ∧ n' ≤ n + 1 ∧ KpM wr w' ∧ KpS wr w' p) ∨
    (∃ v', l ≠ -1 ∧ e = .returned (.tuple #[.pointer none, .int .i64 160]) ∧ KD w w' p v' L (n + 1) (-1) true S G ∧ KpM wr w' ∧ KpS wr w' p)
/-- how Write ends -/
def KWrite (w wr : World) (p gs : Nat) (n : Int) (S S1 : StD) (e : Ending) (w' : World) : Prop :=
  (∃ L' n' l' v', e = .returned (.int .i64 0) ∧ KD w w' p v' L' n' l' false S1 [] ∧ StIs w' gs p S1 ∧ n' ≤ n + 5 ∧ KpM wr w') ∨
    (∃ S2 G L' n' v', e = .returned (.int .i64 160) ∧ (S2 = S ∨ S2 = S1) ∧ KD w w' p v' L' n' (-1) true S2 G ∧ n' ≤ n + 5 ∧ KpM wr w')
section
variable {w wr w2 : World} {p gs : Nat} {v v2 : Value} {n l : Int} {L G : List FileD} {S : StD} {m : ManM}
theorem k_open (a : KD w wr p v L n l false S G) (hn : n ≤ 1000000) (hT : Tb w.heap.size w) :
    Calls Tryz.prog 9 #[.pointer (some ⟨p, 0, none⟩)] wr (KOpen w wr p L n l S G) := by
  obtain ⟨h1, h2⟩ := open_has (q := 1048576) (n := n) oth_nil a.ok a.g a.has (l := l) a.l0
  refine (open_on wr w.heap.size p v _ a.is a.hB rfl ((a.fit hn).less (by have := a.small.2; show L.length + 1 ≤ 100; omega)) (hT.on a.below)).mono fun e w' hP => ?_
  obtain ⟨v1, ho, hc⟩ := hP
  rw [h1] at hc
  obtain ⟨k1, k2⟩ := ho.kp
  have hb := a.below.trans ho.below
  rcases h2 with ⟨L', n', l', e2, a1, a2, a3, a4, a5, _⟩ | ⟨h3, e2⟩
  · rw [e2] at ho hc
    rcases hc with ⟨hc, _⟩ | ⟨_, gs, he, hg, hst⟩
    · exact absurd rfl hc
    · exact .inl ⟨gs, L', n', l', v1, he, ⟨ho.is, hb, a.ok, .inl (.inl rfl), a1, by have := a.n0; omega, a4, by have := a.l1; omega⟩, hst, Nat.le_trans a.hB hg, a3, k1, k2⟩
  · rw [e2] at ho hc
    rcases hc with ⟨_, he⟩ | ⟨hc, _⟩
    · exact .inr ⟨v1, by omega, he, ⟨ho.is, hb, a.ok, a.g, a.has, by have := a.n0; omega, by decide, by decide⟩, k1, k2⟩
    · exact absurd hc (show ¬ (160 : Int) = 0 by decide)
theorem k_write (a : KD w wr p v L n l false S []) (hn : n ≤ 1000000) (hT : Tb w.heap.size w) (hs : StIs wr gs p S) (hg : w.heap.size ≤ gs) (hm : m.Ok) (hy : (nextM S m).may = true) :
    Calls Tryz.prog 22 #[.pointer (some ⟨gs, 0, none⟩), .agg (mCells m)] wr (KWrite w wr p gs n S ⟨nextM S m, true⟩) := by
  obtain ⟨L', n', l', a1, a2, a3, a4, a5⟩ := write_has (q := 1048576) (n := n) oth_nil a.ok hm hy (T := []) (.inl rfl) (l := l) a.l0 a.has (by have := a.small.1; omega)
  have hn0 := a.n0; have hl1 := a.l1
  refine (write_any wr w.heap.size p gs v _ S m a.is hg hs ((a.fit hn).less (by decide)) (hT.on a.below) hm a.ok.nn).mono fun e w' hP => ?_
  obtain ⟨he, v1, ha⟩ := hP
  have hk := ha.kpM hs
  have hb := a.below.trans ha.below
  have hS1 : StOk ⟨nextM S m, true⟩ := nextS_ok a.ok hm hy
  rcases a5 with ⟨b1, b2, _⟩ | ⟨_, ⟨T, b1, b2, b3⟩ | ⟨b1, b2, b3⟩⟩
  · rw [b1] at he ha
    exact .inl ⟨L', n', l', v1, he, ⟨ha.is, hb, hS1, .inl (.inl rfl), b2, by omega, a3, by omega⟩, ha.st, by omega, hk⟩
  · rw [b2] at he ha
    exact .inr ⟨S, T, L', n', v1, he, .inl rfl, ⟨ha.is, hb, a.ok, .inl b1, b3, by omega, by decide, by decide⟩, by omega, hk⟩
  · rw [b2] at he ha
    have hlt : S.m.n < (nextM S m).n := by show S.m.n < S.m.n + 1; omega
    exact .inr ⟨_, [fileM S.m], L', n', v1, he, .inr rfl, ⟨ha.is, hb, hS1, .inr ⟨S.m, rfl, a.ok.1 b1, hlt, rfl⟩, b3.perm_ (List.Perm.swap _ _ _), by omega, by decide, by decide⟩, by omega, hk⟩
theorem k_write_no (a : KD w wr p v L n l false S []) (hn : n ≤ 1000000) (hT : Tb w.heap.size w) (hs : StIs wr gs p S) (hg : w.heap.size ≤ gs) (hm : m.Ok) (hy : (nextM S m).may = false) :
    Calls Tryz.prog 22 #[.pointer (some ⟨gs, 0, none⟩), .agg (mCells m)] wr fun e w' => e = .returned (.int .i64 2) ∧ ∃ v', KD w w' p v' L n l false S [] ∧ StIs w' gs p S ∧ KpM wr w' := by
  refine (write_any wr w.heap.size p gs v _ S m a.is hg hs ((a.fit hn).less (by decide)) (hT.on a.below) hm a.ok.nn).mono fun e w' hP => ?_
  obtain ⟨he, v1, ha⟩ := hP
  rw [write_tail, if_pos hy] at he ha
  exact ⟨he, v1, ⟨ha.is, a.below.trans ha.below, a.ok, a.g, a.has, a.n0, a.l0, a.l1⟩, ha.st, ha.kpM hs⟩
end
end Go.Proofs.YtlcgkcafelpglaaGreatDoor
