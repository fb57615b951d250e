/- What a disk's calls cost: steps, files, bytes. -/
import Derived.Test.YthmcimpdehgaoaaGreatDoorDk5
namespace Go.Proofs.YthmcimpdehgaoaaGreatDoor
open Go.RowKit

/-- the steps and files that a disk may still have -/
structure FitN (D : DiskD) (n : Nat) : Prop where
  steps0 : 0 ≤ D.steps
  steps : D.steps + n ≤ 4611686018427387904
  files : D.files.length + n ≤ 10000000
  used : D.used + 100 * n ≤ 1000000000
  left : -1 ≤ D.left
  left1 : D.left ≤ 9223372036854775807
theorem FitN.less {D : DiskD} {n k : Nat} (h : FitN D n) (hk : k ≤ n) : FitN D k := ⟨h.steps0, by have := h.steps; omega, by have := h.files; omega, by have := h.used; omega, h.left, h.left1⟩
theorem FitN.fit {D : DiskD} {n : Nat} (h : FitN D n) : Fit D :=
  ⟨by have := h.files; omega, fun f hf => by have := size_le_used hf; have := h.used; unfold DiskD.used at this; omega, by have := h.steps; omega, h.steps0, h.left, h.left1⟩
theorem putL_len (L : List FileD) (k : Nat) (th : Bool) (f : FileD) : (putL L k th f).length ≤ L.length + 1 := by
  unfold putL
  split
  · rw [List.length_set]; omega
  · rw [List.length_append, List.length_cons, List.length_take, List.length_drop]; omega
theorem putL_used (L : List FileD) (k : Nat) (th : Bool) (f : FileD) : usedL (putL L k th f) ≤ usedL L + f.b.size := by
  unfold putL
  split
  · rcases Nat.lt_or_ge k L.length with hk | hk
    · have := usedL_set f (List.getElem?_eq_getElem hk); omega
    · rw [List.set_eq_of_length_le hk]; omega
  · rw [usedL_new]; omega
theorem does_fit (kind : Int) (L : List FileD) (i n : Nat) (dst : ByteArray) (f : FileD) (hi : L[i]? = some f) : (doesL kind L i n dst f).length ≤ L.length ∧ usedL (doesL kind L i n dst f) ≤ usedL L := by
  have hlt := (List.getElem?_eq_some_iff.1 hi).1
  have hs := usedL_split hi
  unfold doesL
  split
  · refine ⟨?_, by omega⟩
    rw [List.length_append, List.length_take, List.length_drop]; omega
  · split
    · have h1 := putL_len (L.take i ++ L.drop (i + 1)) (findN ((L.take i ++ L.drop (i + 1)).map (·.name)) dst).1 (findN ((L.take i ++ L.drop (i + 1)).map (·.name)) dst).2 ⟨dst, f.b, n⟩
      have h2 := putL_used (L.take i ++ L.drop (i + 1)) (findN ((L.take i ++ L.drop (i + 1)).map (·.name)) dst).1 (findN ((L.take i ++ L.drop (i + 1)).map (·.name)) dst).2 ⟨dst, f.b, n⟩
      rw [List.length_append, List.length_take, List.length_drop] at h1
      have h3 : (⟨dst, f.b, n⟩ : FileD).b.size = f.b.size := rfl
      exact ⟨by omega, by omega⟩
    · refine ⟨by rw [List.length_set]; omega, ?_⟩
      have h1 := usedL_set ⟨f.name, f.b.extract 0 n, n⟩ hi
      have h3 : (⟨f.name, f.b.extract 0 n, n⟩ : FileD).b.size ≤ f.b.size := by show (f.b.extract 0 n).size ≤ _; rw [ByteArray.size_extract]; omega
      omega
theorem power_fit (D : DiskD) (h : -1 ≤ D.left) : D.power.2.steps = D.steps + 1 ∧ D.power.2.files = D.files ∧ D.power.2.quota = D.quota ∧ -1 ≤ D.power.2.left ∧ D.power.2.left ≤ max D.left (-1) := by
  unfold DiskD.power
  split
  · exact ⟨rfl, rfl, rfl, by simp, by simp; omega⟩
  · split
    · exact ⟨rfl, rfl, rfl, by simp; omega, by simp; omega⟩
    · exact ⟨rfl, rfl, rfl, h, by simp; omega⟩
structure Cst (D D' : DiskD) (s f u : Nat) : Prop where
  s0 : D.steps ≤ D'.steps
  s1 : D'.steps ≤ D.steps + s
  f : D'.files.length ≤ D.files.length + f
  u : D'.used ≤ D.used + u
  l0 : -1 ≤ D'.left
  l1 : D'.left ≤ max D.left (-1)
theorem Cst.refl {D : DiskD} (h : -1 ≤ D.left) : Cst D D 0 0 0 := ⟨Int.le_refl _, by omega, Nat.le_refl _, Nat.le_refl _, h, by omega⟩
theorem Cst.trans {D D1 D2 : DiskD} {s f u s' f' u' : Nat} (a : Cst D D1 s f u) (b : Cst D1 D2 s' f' u') : Cst D D2 (s + s') (f + f') (u + u') :=
  ⟨by have := a.s0; have := b.s0; omega, by have := a.s1; have := b.s1; omega, by have := a.f; have := b.f; omega, by have := a.u; have := b.u; omega, b.l0, by have := a.l1; have := b.l1; omega⟩
theorem Cst.mono {D D1 : DiskD} {s f u s' f' u' : Nat} (a : Cst D D1 s f u) (h1 : s ≤ s') (h2 : f ≤ f') (h3 : u ≤ u') : Cst D D1 s' f' u' :=
  ⟨a.s0, by have := a.s1; omega, by have := a.f; omega, by have := a.u; omega, a.l0, a.l1⟩
theorem cst_step {D : DiskD} (h : -1 ≤ D.left) (kind : Int) (a b : ByteArray) (k : Int) (all : Bool) : Cst D (D.step kind a b k all).2 1 0 0 := by
  have hr := (Cst.refl h).mono (Nat.zero_le 1) (Nat.le_refl 0) (Nat.le_refl 0)
  unfold DiskD.step
  split
  · exact hr
  · split
    · exact hr
    · rename_i i f hat
      have hp := power_fit D h
      generalize (if all = true then (f.b.size : Int) else k) = K
      split
      · exact hr
      · have h1 := (DiskD.at_some hat).2
        have hd := does_fit kind D.files i K.toNat b f h1
        split
        · refine ⟨?_, ?_, ?_, ?_, hp.2.2.2.1, ?_⟩
          · show D.steps ≤ D.power.2.steps; omega
          · show D.power.2.steps ≤ _; omega
          · show (doesL kind D.files i _ b f).length ≤ _; omega
          · show usedL (doesL kind D.files i _ b f) ≤ usedL D.files + 0; omega
          · show D.power.2.left ≤ _; omega
        · refine ⟨?_, ?_, ?_, ?_, hp.2.2.2.1, ?_⟩
          · show D.steps ≤ D.power.2.steps; omega
          · show D.power.2.steps ≤ _; omega
          · rw [hp.2.1]; omega
          · unfold DiskD.used; rw [hp.2.1]; omega
          · show D.power.2.left ≤ _; omega
theorem put_cost (D : DiskD) (a b : ByteArray) : (D.put a b).files.length ≤ D.files.length + 1 ∧ usedL (D.put a b).files ≤ usedL D.files + b.size := by
  refine ⟨putL_len _ _ _ _, ?_⟩
  unfold DiskD.put
  show usedL (putL D.files (findN (D.files.map (·.name)) a).1 (findN (D.files.map (·.name)) a).2 ⟨(D.was a).name, (D.was a).b ++ b, (D.was a).safe⟩) ≤ _
  cases hat : D.at_ a with
  | none =>
    have hw : D.was a = ⟨a, ByteArray.empty, -1⟩ := by unfold DiskD.was; rw [hat]
    have := putL_used D.files (findN (D.files.map (·.name)) a).1 (findN (D.files.map (·.name)) a).2 ⟨(D.was a).name, (D.was a).b ++ b, (D.was a).safe⟩
    have e : (⟨(D.was a).name, (D.was a).b ++ b, (D.was a).safe⟩ : FileD).b.size = b.size := by
      show ((D.was a).b ++ b).size = _
      rw [hw, ByteArray.size_append]; simp
    omega
  | some x =>
    obtain ⟨i, f⟩ := x
    obtain ⟨h6, h7⟩ := DiskD.at_some hat
    have hw : D.was a = f := by unfold DiskD.was; rw [hat]
    rw [h6]
    unfold putL
    rw [if_pos rfl]
    have := usedL_set ⟨(D.was a).name, (D.was a).b ++ b, (D.was a).safe⟩ h7
    have e : (⟨(D.was a).name, (D.was a).b ++ b, (D.was a).safe⟩ : FileD).b.size = f.b.size + b.size := by
      show ((D.was a).b ++ b).size = _
      rw [hw, ByteArray.size_append]
    show usedL (D.files.set i ⟨(D.was a).name, (D.was a).b ++ b, (D.was a).safe⟩) ≤ _
    omega
theorem cst_append {D : DiskD} (h : -1 ≤ D.left) (a b : ByteArray) : Cst D (D.append a b).2 1 1 b.size := by
  have hr := (Cst.refl h).mono (Nat.zero_le 1) (Nat.zero_le 1) (Nat.zero_le b.size)
  unfold DiskD.append
  split
  · exact hr
  · split
    · exact hr
    · split
      · exact hr
      · have hp := power_fit (D.put a b) h
        obtain ⟨h1, h2⟩ := put_cost D a b
        have hst : (D.put a b).steps = D.steps := rfl
        have hlf : (D.put a b).left = D.left := rfl
        refine ⟨?_, ?_, ?_, ?_, hp.2.2.2.1, ?_⟩
        · rw [hp.1, hst]; omega
        · rw [hp.1, hst]; omega
        · rw [hp.2.1]; exact h1
        · unfold DiskD.used; rw [hp.2.1]; exact h2
        · omega
theorem onGo_used : ∀ (L : List FileD) (ks : List Int), usedL (onGo L ks) ≤ usedL L := by
  intro L
  induction L with
  | nil => intro ks; exact Nat.le_refl _
  | cons f L ih =>
    intro ks
    have h1 := ih ks.tail
    have h2 : usedL (keptL f ks.head?) ≤ f.b.size := by
      unfold keptL
      split
      · have : usedL [(⟨f.name, f.b.extract 0 (keptN f ks.head?), keptN f ks.head?⟩ : FileD)] = (f.b.extract 0 (keptN f ks.head?)).size := by simp [usedL]
        rw [this, ByteArray.size_extract]; omega
      · exact Nat.zero_le _
    have e : onGo (f :: L) ks = keptL f ks.head? ++ onGo L ks.tail := rfl
    have e2 : usedL (f :: L) = f.b.size + usedL L := by simp [usedL]
    rw [e, e2, usedL_append]
    omega
theorem cst_on {D : DiskD} (ks : List Int) : Cst D (D.on ks) 0 0 0 := by
  unfold DiskD.on
  split
  · refine ⟨Int.le_refl _, by show D.steps ≤ _; omega, ?_, onGo_used _ _, Int.le_refl _, by show (-1 : Int) ≤ _; omega⟩
    have := (onGo_sub D.files ks).length_le
    rw [List.length_map, List.length_map] at this
    exact this
  · exact ⟨Int.le_refl _, by show D.steps ≤ _; omega, Nat.le_refl _, Nat.le_refl _, Int.le_refl _, by show (-1 : Int) ≤ _; omega⟩
end Go.Proofs.YthmcimpdehgaoaaGreatDoor
