/- Chapter 16's DiskFails in plain words: an armed disk beside one that is not; contracts of three disks. -/
import Derived.Test.YtcfcfpphhaknnaaTkF
namespace Go.Proofs.Ytcfcfpphhaknnaa
open Go.RowKit Go.Maps

theorem step_cmp (F : List FileD) (Q S L : Int) (kind : Int) (a b : ByteArray) (n : Int) (all : Bool) :
    ((⟨F, Q, S, -1, false⟩ : DiskD).step kind a b n all).2 = ⟨F, Q, S, -1, false⟩ ∧ (⟨F, Q, S, L, false⟩ : DiskD).step kind a b n all = (((⟨F, Q, S, -1, false⟩ : DiskD).step kind a b n all).1, ⟨F, Q, S, L, false⟩) ∨
    ∃ F', (⟨F, Q, S, -1, false⟩ : DiskD).step kind a b n all = (0, ⟨F', Q, S + 1, -1, false⟩) ∧ (0 < L → (⟨F, Q, S, L, false⟩ : DiskD).step kind a b n all = (0, ⟨F', Q, S + 1, L - 1, false⟩)) ∧ (L = 0 → (⟨F, Q, S, L, false⟩ : DiskD).step kind a b n all = (160, ⟨F, Q, S + 1, -1, true⟩)) := by
  have ha : (⟨F, Q, S, L, false⟩ : DiskD).asked [a, b] = (⟨F, Q, S, -1, false⟩ : DiskD).asked [a, b] := rfl
  have hat : (⟨F, Q, S, L, false⟩ : DiskD).at_ a = (⟨F, Q, S, -1, false⟩ : DiskD).at_ a := rfl
  have hp1 : (⟨F, Q, S, -1, false⟩ : DiskD).power = (0, ⟨F, Q, S + 1, -1, false⟩) := rfl
  unfold DiskD.step
  rw [ha, hat]
  split
  · exact .inl ⟨rfl, rfl⟩
  · split
    · exact .inl ⟨rfl, rfl⟩
    · rename_i i f hat
      generalize (if all = true then (f.b.size : Int) else n) = K
      by_cases hK : K < 0 ∨ (f.b.size : Int) < K
      · rw [if_pos hK, if_pos hK]
        exact .inl ⟨rfl, rfl⟩
      · rw [if_neg hK, if_neg hK, hp1]
        right
        refine ⟨_, if_pos rfl, fun h0 => ?_, fun h0 => ?_⟩
        · have hp : (⟨F, Q, S, L, false⟩ : DiskD).power = (0, ⟨F, Q, S + 1, L - 1, false⟩) := by unfold DiskD.power; rw [if_neg (by show ¬ L = 0; omega), if_pos (by exact h0)]
          rw [hp]
          exact if_pos rfl
        · have hp : (⟨F, Q, S, L, false⟩ : DiskD).power = (160, ⟨F, Q, S + 1, -1, true⟩) := by unfold DiskD.power; rw [if_pos (by exact h0)]
          rw [hp]
          exact if_neg (show (160 : Int) ≠ 0 by decide)
theorem append_cmp (F : List FileD) (Q S L : Int) (a b : ByteArray) :
    ((⟨F, Q, S, -1, false⟩ : DiskD).append a b).2 = ⟨F, Q, S, -1, false⟩ ∧ (⟨F, Q, S, L, false⟩ : DiskD).append a b = (((⟨F, Q, S, -1, false⟩ : DiskD).append a b).1, ⟨F, Q, S, L, false⟩) ∨
    ∃ F', (⟨F, Q, S, -1, false⟩ : DiskD).append a b = (0, ⟨F', Q, S + 1, -1, false⟩) ∧ (0 < L → (⟨F, Q, S, L, false⟩ : DiskD).append a b = (0, ⟨F', Q, S + 1, L - 1, false⟩)) ∧ (L = 0 → (⟨F, Q, S, L, false⟩ : DiskD).append a b = (160, ⟨F', Q, S + 1, -1, true⟩)) := by
  have ha : (⟨F, Q, S, L, false⟩ : DiskD).asked [a] = (⟨F, Q, S, -1, false⟩ : DiskD).asked [a] := rfl
  have hw : (⟨F, Q, S, L, false⟩ : DiskD).was a = (⟨F, Q, S, -1, false⟩ : DiskD).was a := rfl
  have hu : (⟨F, Q, S, L, false⟩ : DiskD).used = (⟨F, Q, S, -1, false⟩ : DiskD).used := rfl
  obtain ⟨F', hF⟩ : ∃ F', putL F (findN (F.map (·.name)) a).1 (findN (F.map (·.name)) a).2 ⟨((⟨F, Q, S, -1, false⟩ : DiskD).was a).name, ((⟨F, Q, S, -1, false⟩ : DiskD).was a).b ++ b, ((⟨F, Q, S, -1, false⟩ : DiskD).was a).safe⟩ = F' := ⟨_, rfl⟩
  have hp : ∀ z : Int, (⟨F, Q, S, z, false⟩ : DiskD).put a b = ⟨F', Q, S, z, false⟩ := fun z => by
    rw [← hF]; rfl
  unfold DiskD.append
  rw [ha, hw, hu]
  split
  · exact .inl ⟨rfl, rfl⟩
  · split
    · exact .inl ⟨rfl, rfl⟩
    · dsimp only
      split
      · exact .inl ⟨rfl, rfl⟩
      · right
        rw [hp, hp]
        refine ⟨F', rfl, fun h0 => ?_, fun h0 => ?_⟩
        · unfold DiskD.power; rw [if_neg (by show ¬ L = 0; omega), if_pos (by exact h0)]
        · unfold DiskD.power; rw [if_pos (by exact h0)]
/-- how a call goes on both -/
def CmpD (F : List FileD) (Q S L : Int) (x : CallD) : Prop :=
  (∃ E T, (⟨F, Q, S, -1, false⟩ : DiskD).doesC x = (E, T, ⟨F, Q, S, -1, false⟩) ∧ (⟨F, Q, S, L, false⟩ : DiskD).doesC x = (E, T, ⟨F, Q, S, L, false⟩)) ∨
  ∃ F' T, (⟨F, Q, S, -1, false⟩ : DiskD).doesC x = (0, T, ⟨F', Q, S + 1, -1, false⟩) ∧ (0 < L → (⟨F, Q, S, L, false⟩ : DiskD).doesC x = (0, T, ⟨F', Q, S + 1, L - 1, false⟩)) ∧
    (L = 0 → (⟨F, Q, S, L, false⟩ : DiskD).doesC x = (160, T, ⟨if x.kind = 0 ∨ x.kind = 1 then F' else F, Q, S + 1, -1, true⟩))
theorem cmp_does (F : List FileD) (Q S L : Int) (x : CallD) (hk : ¬ (6 ≤ x.kind ∧ x.kind ≤ 8)) : CmpD F Q S L x := by
  have st : ∀ kind a b n all, ¬ (x.kind = 0 ∨ x.kind = 1) → (∀ D : DiskD, D.doesC x = ((D.step kind a b n all).1, ByteArray.empty, (D.step kind a b n all).2)) → CmpD F Q S L x := fun kind a b n all hk0 hd => by
    unfold CmpD
    rw [hd, hd]
    rcases step_cmp F Q S L kind a b n all with ⟨h1, h2⟩ | ⟨F', h1, h2, h3⟩
    · left
      rw [h1, h2]
      exact ⟨_, _, rfl, rfl⟩
    · right
      rw [h1]
      refine ⟨F', _, rfl, fun h => ?_, fun h => ?_⟩
      · rw [h2 h]
      · rw [h3 h, if_neg hk0]
  by_cases h0 : x.kind = 0 ∨ x.kind = 1
  · have hd : ∀ D : DiskD, D.doesC x = ((D.append x.name x.b).1, ByteArray.empty, (D.append x.name x.b).2) := fun D => by unfold DiskD.doesC; rw [if_pos h0]
    unfold CmpD
    rw [hd, hd]
    rcases append_cmp F Q S L x.name x.b with ⟨h1, h2⟩ | ⟨F', h1, h2, h3⟩
    · left
      rw [h1, h2]
      exact ⟨_, _, rfl, rfl⟩
    · right
      rw [h1]
      refine ⟨F', _, rfl, fun h => ?_, fun h => ?_⟩
      · rw [h2 h]
      · rw [h3 h, if_pos h0]
  · by_cases h2 : x.kind = 2
    · exact st 0 x.name x.name 0 true h0 fun D => by unfold DiskD.doesC; rw [if_neg h0, if_pos h2]
    by_cases h3 : x.kind = 3
    · exact st 1 x.name x.name x.n false h0 fun D => by unfold DiskD.doesC; rw [if_neg h0, if_neg h2, if_pos h3]
    by_cases h4 : x.kind = 4
    · exact st 2 x.name x.dst 0 true h0 fun D => by unfold DiskD.doesC; rw [if_neg h0, if_neg h2, if_neg h3, if_pos h4]
    by_cases h5 : x.kind = 5
    · exact st 3 x.name x.name 0 true h0 fun D => by unfold DiskD.doesC; rw [if_neg h0, if_neg h2, if_neg h3, if_neg h4, if_pos h5]
    left
    have hd : ∀ D : DiskD, D.doesC x = ((D.read x.name).1, (D.read x.name).2, D) := fun D => by
      unfold DiskD.doesC
      rw [if_neg h0, if_neg h2, if_neg h3, if_neg h4, if_neg h5, if_neg (by omega), if_neg (by omega), if_neg (by omega)]
    rw [hd, hd]
    exact ⟨_, _, rfl, rfl⟩
theorem off_does (F : List FileD) (Q S L : Int) (x : CallD) (hk : ¬ (6 ≤ x.kind ∧ x.kind ≤ 8)) : (⟨F, Q, S, L, true⟩ : DiskD).doesC x = (160, ByteArray.empty, ⟨F, Q, S, L, true⟩) := by
  have ha : ∀ l, (⟨F, Q, S, L, true⟩ : DiskD).asked l = 160 := fun l => rfl
  have hst : ∀ kind a b n all, (⟨F, Q, S, L, true⟩ : DiskD).step kind a b n all = (160, ⟨F, Q, S, L, true⟩) := fun _ _ _ _ _ => by
    unfold DiskD.step
    rw [ha, if_pos (by decide)]
  have hap : ∀ a b, (⟨F, Q, S, L, true⟩ : DiskD).append a b = (160, ⟨F, Q, S, L, true⟩) := fun _ _ => by
    unfold DiskD.append
    rw [ha, if_pos (by decide)]
  have hrd : ∀ a, (⟨F, Q, S, L, true⟩ : DiskD).read a = (160, ByteArray.empty) := fun _ => by
    unfold DiskD.read
    rw [ha, if_pos (by decide)]
  unfold DiskD.doesC
  rw [hap, hst, hst, hst, hst, hrd]
  split
  · rfl
  split
  · rfl
  split
  · rfl
  split
  · rfl
  split
  · rfl
  rw [if_neg (by omega), if_neg (by omega), if_neg (by omega)]
/-- the armed disk beside the other one -/
def StG (A : Int) (gone : Bool) (D M : DiskD) : Prop :=
  ∃ F Q S, M = ⟨F, Q, S, -1, false⟩ ∧ ((gone = false ∧ D = ⟨F, Q, S, A - S, false⟩ ∧ S ≤ A) ∨ (gone = true ∧ ∃ S', D = ⟨F, Q, S', -1, true⟩))
theorem StG.off {A : Int} {gone : Bool} {D M : DiskD} (h : StG A gone D M) : D.off = gone := by
  obtain ⟨F, Q, S, rfl, ⟨rfl, rfl, _⟩ | ⟨rfl, S', rfl⟩⟩ := h <;> rfl
theorem StG.on {A : Int} {gone : Bool} {D M : DiskD} (h : StG A gone D M) (ks : List Int) : (({ M with off := true, left := -1 } : DiskD).on ks).files = (({ D with off := true, left := -1 } : DiskD).on ks).files ∧ (({ M with off := true, left := -1 } : DiskD).on ks).off = (({ D with off := true, left := -1 } : DiskD).on ks).off := by
  obtain ⟨F, Q, S, rfl, ⟨rfl, rfl, _⟩ | ⟨rfl, S', rfl⟩⟩ := h <;> exact ⟨rfl, rfl⟩
/-- what a round does of it: e, f: the answers; the steps behind -/
theorem StG.round {A : Int} {gone : Bool} {D M : DiskD} (h : StG A gone D M) (x : CallD) (hk : ¬ (6 ≤ x.kind ∧ x.kind ≤ 8)) :
    (gone = true ∧ (D.doesC x).1 = 160 ∧ (D.doesC x).2.2 = D) ∨
    (gone = false ∧ (D.doesC x).1 = (M.doesC x).1 ∧ ((M.doesC x).2.2.steps = M.steps ∨ M.steps < A) ∧ StG A false (D.doesC x).2.2 (M.doesC x).2.2) ∨
    (gone = false ∧ (D.doesC x).1 = 160 ∧ (M.doesC x).1 = 0 ∧ (M.doesC x).2.2.steps ≠ M.steps ∧ ¬ M.steps < A ∧ (D.doesC x).2.2.off = true ∧ StG A true (D.doesC x).2.2 (if x.kind = 0 ∨ x.kind = 1 then (M.doesC x).2.2 else M)) := by
  obtain ⟨F, Q, S, rfl, ⟨rfl, rfl, hS⟩ | ⟨rfl, S', rfl⟩⟩ := h
  · rcases cmp_does F Q S (A - S) x hk with ⟨E, T, h1, h2⟩ | ⟨F', T, h1, h2, h3⟩
    · right; left
      rw [h1, h2]
      exact ⟨rfl, rfl, .inl rfl, F, Q, S, rfl, .inl ⟨rfl, rfl, hS⟩⟩
    · by_cases hlt : S < A
      · right; left
        rw [h1, h2 (by omega)]
        refine ⟨rfl, rfl, .inr hlt, F', Q, S + 1, rfl, .inl ⟨rfl, ?_, by omega⟩⟩
        rw [show A - S - 1 = A - (S + 1) by omega]
      · right; right
        rw [h1, h3 (by omega)]
        refine ⟨rfl, rfl, rfl, by show S + 1 ≠ S; omega, hlt, rfl, ?_⟩
        split
        · exact ⟨F', Q, S + 1, rfl, .inr ⟨rfl, S + 1, rfl⟩⟩
        · exact ⟨F, Q, S, rfl, .inr ⟨rfl, S + 1, rfl⟩⟩
  · left
    rw [off_does F Q S' (-1) x hk]
    exact ⟨rfl, rfl, rfl⟩
/-- two disks, three disks -/
structure FlS (w wr : World) (p q : Nat) (v vq : Value) (D M : DiskD) : Prop where
  is : DiskIs wr w.heap.size p v D
  im : DiskIs wr w.heap.size q vq M
  ap : Apart p v q vq
  below : Below w.heap.size w wr
structure FlC (w wr : World) (p q r : Nat) (v vq vr : Value) (D M C : DiskD) : Prop where
  is : DiskIs wr w.heap.size p v D
  im : DiskIs wr w.heap.size q vq M
  ic : DiskIs wr w.heap.size r vr C
  ap : Apart p v q vq
  ap1 : Apart p v r vr
  ap2 : Apart q vq r vr
  below : Below w.heap.size w wr
section
variable {w wr w2 : World} {p q r : Nat} {v vq vr v2 : Value} {D M C D2 : DiskD}
theorem FlS.below_ (a : FlS w wr p q v vq D M) (hb : Below wr.heap.size wr w2) : FlS w w2 p q v vq D M :=
  ⟨a.is.below hb (Nat.le_refl _), a.im.below hb (Nat.le_refl _), a.ap, a.below.trans (hb.mono a.below.size)⟩
theorem FlC.below_ (a : FlC w wr p q r v vq vr D M C) (hb : Below wr.heap.size wr w2) : FlC w w2 p q r v vq vr D M C :=
  ⟨a.is.below hb (Nat.le_refl _), a.im.below hb (Nat.le_refl _), a.ic.below hb (Nat.le_refl _), a.ap, a.ap1, a.ap2, a.below.trans (hb.mono a.below.size)⟩
theorem FlC.toM (a : FlC w wr p q r v vq vr D M C) : FlS w wr p q v vq D M := ⟨a.is, a.im, a.ap, a.below⟩
theorem FlC.toC (a : FlC w wr p q r v vq vr D M C) : FlS w wr p r v vr D C := ⟨a.is, a.ic, a.ap1, a.below⟩
theorem FlS.outD (a : FlS w wr p q v vq D M) (o : Out w.heap.size wr w2 p v D2 v2) : FlS w w2 p q v2 vq D2 M :=
  have h := o.other _ q vq M a.im a.ap
  ⟨o.is, h.1, h.2, a.below.trans o.below⟩
theorem FlS.outM (a : FlS w wr p q v vq D M) (o : Out w.heap.size wr w2 q vq D2 v2) : FlS w w2 p q v v2 D D2 :=
  have h := o.other _ p v D a.is a.ap.symm
  ⟨h.1, o.is, h.2.symm, a.below.trans o.below⟩
theorem FlC.outD (a : FlC w wr p q r v vq vr D M C) (o : Out w.heap.size wr w2 p v D2 v2) : FlC w w2 p q r v2 vq vr D2 M C :=
  have h := o.other _ q vq M a.im a.ap
  have h1 := o.other _ r vr C a.ic a.ap1
  ⟨o.is, h.1, h1.1, h.2, h1.2, a.ap2, a.below.trans o.below⟩
theorem FlC.outC (a : FlC w wr p q r v vq vr D M C) (o : Out w.heap.size wr w2 r vr D2 v2) : FlC w w2 p q r v vq v2 D M D2 :=
  have h := o.other _ q vq M a.im a.ap2.symm
  have h1 := o.other _ p v D a.is a.ap1.symm
  ⟨h1.1, h.1, o.is, a.ap, h1.2.symm, h.2.symm, a.below.trans o.below⟩
theorem fl_copy (a : FlS w wr p q v vq D M) (hf : Fit M) : Calls Try.prog 11 #[.pointer (some ⟨q, 0, none⟩)] wr fun e w' => ∃ r vr, e = .returned (.pointer (some ⟨r, 0, none⟩)) ∧ FlC w w' p q r v vq vr D M M ∧ Below wr.heap.size wr w' := by
  refine (copy_any wr _ q vq M a.im (by have := hf.len; omega)).mono ?_
  rintro e w' ⟨vr, rfl, hd, hb⟩
  exact ⟨_, vr, rfl, ⟨a.is.below hb (Nat.le_refl _), a.im.below hb (Nat.le_refl _), hd.mono a.below.size, a.ap, apart_new a.is hd, apart_new a.im hd, a.below.trans (hb.mono a.below.size)⟩, hb⟩
variable {x : CallD} {bv : Value} {A : Option Addr} {c : Nat} {g : Nat} {cs : Array Value}
theorem fl_doesD (a : FlC w wr p q r v vq vr D M C) (hf : FitN D 1000) (hok : ∀ f ∈ D.files, SafeOk f) (hk : 0 ≤ x.kind ∧ x.kind ≤ 255) (hbv : BtR w bv x.b) (hbs : x.b.size ≤ 4000) (hr : Rd w 1 A x.keep.length (x.keep.map (Value.int .i64))) (hkl : x.keep.length ≤ 40) (hg : Blk wr g 50 cs) :
    Calls Try.prog 36 #[.pointer (some ⟨p, 0, none⟩), .agg #[.int .u8 x.kind, .string x.name, .string x.dst, bv, .int .i64 x.n, .slice A x.keep.length c]] wr fun e w' =>
      e = .returned (.tuple #[.int .i64 (D.doesC x).1, .string (D.doesC x).2.1]) ∧ ∃ v', FlC w w' p q r v' vq vr (D.doesC x).2.2 M C ∧ Blk w' g 50 cs := by
  refine (does_c wr w.heap.size p v D a.is a.below.size (Nat.zero_le _) hf.fit (by have := hf.used; omega) hok x hk _ (hbv.below a.below) (by omega) A c (hr.below a.below) (rd_blockT hr a.is.1) (by omega)).mono ?_
  rintro e w' ⟨he, v', o⟩
  exact ⟨he, v', a.outD o, (o.blk g _ _ _ (by decide) (by decide) hg).trans hg⟩
theorem fl_doesC (a : FlC w wr p q r v vq vr D M C) (hf : FitN C 1000) (hok : ∀ f ∈ C.files, SafeOk f) (hk : 0 ≤ x.kind ∧ x.kind ≤ 255) (hbv : BtR w bv x.b) (hbs : x.b.size ≤ 4000) (hr : Rd w 1 A x.keep.length (x.keep.map (Value.int .i64))) (hkl : x.keep.length ≤ 40) (hg : Blk wr g 50 cs) :
    Calls Try.prog 36 #[.pointer (some ⟨r, 0, none⟩), .agg #[.int .u8 x.kind, .string x.name, .string x.dst, bv, .int .i64 x.n, .slice A x.keep.length c]] wr fun e w' =>
      e = .returned (.tuple #[.int .i64 (C.doesC x).1, .string (C.doesC x).2.1]) ∧ ∃ v', FlC w w' p q r v vq v' D M (C.doesC x).2.2 ∧ Blk w' g 50 cs := by
  refine (does_c wr w.heap.size r vr C a.ic a.below.size (Nat.zero_le _) hf.fit (by have := hf.used; omega) hok x hk _ (hbv.below a.below) (by omega) A c (hr.below a.below) (rd_blockT hr a.ic.1) (by omega)).mono ?_
  rintro e w' ⟨he, v', o⟩
  exact ⟨he, v', a.outC o, (o.blk g _ _ _ (by decide) (by decide) hg).trans hg⟩
end
end Go.Proofs.Ytcfcfpphhaknnaa
