/- A store of checkpoints over a disk that may be armed, in plain words: its files as a set; Open, Write, Read, Steps, Drop. -/
import Derived.Test.YthmcimpdehgaoaaGreatDoorPk7
namespace Go.Proofs.YthmcimpdehgaoaaGreatDoor
open Go.RowKit

/-- what is left behind a step for which the power was there -/
def lessL (l : Int) : Int := if 0 < l then l - 1 else l
theorem power_eq (L : List FileD) (q n l : Int) : (⟨L, q, n, l, false⟩ : DiskD).power = if l = 0 then (160, ⟨L, q, n + 1, -1, true⟩) else (0, ⟨L, q, n + 1, lessL l, false⟩) := by
  unfold DiskD.power lessL
  dsimp only
  by_cases h0 : l = 0
  · rw [if_pos h0, if_pos h0]
  · rw [if_neg h0, if_neg h0]
    by_cases h1 : 0 < l
    · rw [if_pos h1, if_pos h1]
    · rw [if_neg h1, if_neg h1]
theorem lessL_le (l : Int) (h : -1 ≤ l) : -1 ≤ lessL l ∧ lessL l ≤ max l (-1) ∧ (l = -1 → lessL l = -1) ∧ (l ≠ 0 → lessL l ≠ -1 → l ≠ -1) := by
  unfold lessL
  refine ⟨?_, ?_, ?_, ?_⟩
  · split <;> omega
  · split <;> omega
  · intro h; rw [h]; rfl
  · intro h1 h2 h3; rw [h3] at h2; exact h2 rfl
theorem asked2_ok {L : List FileD} {q n l : Int} {a b : ByteArray} (ha : badN a = false) (hb : badN b = false) : (⟨L, q, n, l, false⟩ : DiskD).asked [a, b] = 0 := by simp [DiskD.asked, ha, hb]
section
variable {L : List FileD} {f : FileD} {q n l : Int}
theorem step_mem (h : SortedF L) (hf : f ∈ L) (ht : badN f.name = false) {dst : ByteArray} (hd : badN dst = false) (kind : Int) : ∃ i, L[i]? = some f ∧
    (⟨L, q, n, l, false⟩ : DiskD).step kind f.name dst 0 true = if l = 0 then (160, ⟨L, q, n + 1, -1, true⟩) else (0, ⟨doesL kind L i f.b.size dst f, q, n + 1, lessL l, false⟩) := by
  obtain ⟨i, h1, h2⟩ := at_mem (D := ⟨L, q, n, l, false⟩) h hf
  refine ⟨i, h2, ?_⟩
  unfold DiskD.step
  rw [asked2_ok ht hd, if_neg (by simp), h1]
  dsimp only
  rw [if_pos rfl, if_neg (by omega), power_eq]
  by_cases h0 : l = 0
  · rw [if_pos h0, if_pos h0]; simp
  · rw [if_neg h0, if_neg h0]; simp
theorem remove_mem (h : SortedF L) (hf : f ∈ L) (ht : badN f.name = false) : ∃ L', SortedF L' ∧ (∀ g, g ∈ L' ↔ g ∈ L ∧ g.name ≠ f.name) ∧
    (⟨L, q, n, l, false⟩ : DiskD).step 3 f.name f.name 0 true = if l = 0 then (160, ⟨L, q, n + 1, -1, true⟩) else (0, ⟨L', q, n + 1, lessL l, false⟩) := by
  obtain ⟨i, hi, he⟩ := step_mem h hf ht ht 3 (q := q) (n := n) (l := l)
  have : doesL 3 L i f.b.size f.name f = L.take i ++ L.drop (i + 1) := by unfold doesL; rw [if_pos rfl]
  rw [this] at he
  exact ⟨_, del_sorted h i, mem_del h hi, he⟩
theorem sync_mem (h : SortedF L) (hf : f ∈ L) (ht : badN f.name = false) : ∃ L', SortedF L' ∧ (∀ g, g ∈ L' ↔ g = ⟨f.name, f.b, f.b.size⟩ ∨ g ∈ L ∧ g.name ≠ f.name) ∧
    (⟨L, q, n, l, false⟩ : DiskD).step 0 f.name f.name 0 true = if l = 0 then (160, ⟨L, q, n + 1, -1, true⟩) else (0, ⟨L', q, n + 1, lessL l, false⟩) := by
  obtain ⟨i, hi, he⟩ := step_mem h hf ht ht 0 (q := q) (n := n) (l := l)
  have hx : f.b.extract 0 f.b.size = f.b := by apply ByteArray.ext; simp
  rw [(does_safe h hi f.b.size f.name (.inl rfl)).1, hx] at he
  exact ⟨_, putF_sorted h _, mem_putF h _, he⟩
theorem rename_mem (h : SortedF L) (hf : f ∈ L) (ht : badN f.name = false) {dst : ByteArray} (hd : badN dst = false) : ∃ L', SortedF L' ∧ (∀ g, g ∈ L' ↔ g = ⟨dst, f.b, f.b.size⟩ ∨ (g ∈ L ∧ g.name ≠ f.name) ∧ g.name ≠ dst) ∧
    (⟨L, q, n, l, false⟩ : DiskD).step 2 f.name dst 0 true = if l = 0 then (160, ⟨L, q, n + 1, -1, true⟩) else (0, ⟨L', q, n + 1, lessL l, false⟩) := by
  obtain ⟨i, hi, he⟩ := step_mem h hf ht hd 2 (q := q) (n := n) (l := l)
  have : doesL 2 L i f.b.size dst f = putF (L.take i ++ L.drop (i + 1)) ⟨dst, f.b, f.b.size⟩ := by unfold doesL putF; rw [if_neg (by decide), if_pos rfl]
  rw [this] at he
  refine ⟨_, putF_sorted (del_sorted h i) _, fun g => ?_, he⟩
  rw [mem_putF (del_sorted h i), mem_del h hi]
theorem append_mem (h : SortedF L) {t b : ByteArray} (ht : badN t = false) (hn : ∀ g ∈ L, g.name ≠ t) (hb : b.size ≤ 8388608) (hq : (usedL L : Int) + b.size ≤ q) : ∃ L', SortedF L' ∧ (∀ g, g ∈ L' ↔ g = ⟨t, b, -1⟩ ∨ g ∈ L) ∧
    (⟨L, q, n, l, false⟩ : DiskD).append t b = if l = 0 then (160, ⟨L', q, n + 1, -1, true⟩) else (0, ⟨L', q, n + 1, lessL l, false⟩) := by
  have hw : (⟨L, q, n, l, false⟩ : DiskD).was t = ⟨t, ByteArray.empty, -1⟩ := by unfold DiskD.was; rw [at_no (D := ⟨L, q, n, l, false⟩) hn]
  have hbe : ByteArray.empty ++ b = b := by apply ByteArray.ext; simp
  refine ⟨putF L ⟨t, b, -1⟩, putF_sorted h _, fun g => ?_, ?_⟩
  · rw [mem_putF h]
    exact ⟨fun hx => hx.imp id And.left, fun hx => hx.imp id fun hg => ⟨hg, hn g hg⟩⟩
  have ha : (⟨L, q, n, l, false⟩ : DiskD).asked [t] = 0 := by simp [DiskD.asked, ht]
  unfold DiskD.append
  rw [ha, if_neg (by simp), hw, if_neg (by show ¬ (8388608 : Int) < ((ByteArray.empty.size : Nat) : Int) + _; have : ByteArray.empty.size = 0 := rfl; omega), if_neg (by show ¬ q < ((usedL L : Nat) : Int) + _; omega), put_eq (D := ⟨L, q, n, l, false⟩) h, hw]
  dsimp only
  rw [hbe]
  exact power_eq _ _ _ _
theorem read_mem (h : SortedF L) (hf : f ∈ L) (ht : badN f.name = false) : (⟨L, q, n, l, false⟩ : DiskD).read f.name = (0, f.b) := by
  obtain ⟨i, h1, h2⟩ := find_mem h hf
  have ha : (⟨L, q, n, l, false⟩ : DiskD).asked [f.name] = 0 := by simp [DiskD.asked, ht]
  unfold DiskD.read
  rw [ha, if_neg (by simp)]
  show (if (findN (L.map (·.name)) f.name).2 = true then _ else _) = _
  rw [h1, if_pos rfl]
  show ((0 : Int), (L.map (·.b)).getD i ByteArray.empty) = _
  rw [List.getD_eq_getElem?_getD, List.getElem?_map, h2]; rfl
theorem read_memnt {t : ByteArray} (hn : ∀ g ∈ L, g.name ≠ t) (ht : badN t = false) : (⟨L, q, n, l, false⟩ : DiskD).read t = (5, ByteArray.empty) := by
  have ha : (⟨L, q, n, l, false⟩ : DiskD).asked [t] = 0 := by simp [DiskD.asked, ht]
  unfold DiskD.read
  rw [ha, if_neg (by simp)]
  show (if (findN (L.map (·.name)) t).2 = true then _ else _) = _
  rw [find_no hn, if_neg (by simp)]
end
theorem sortedF_nodup {L : List FileD} (h : SortedF L) : L.Nodup := by
  unfold SortedF SortedN at h
  rw [List.pairwise_map] at h
  exact h.imp fun {a b} hab e => by subst e; rw [lessN_irrefl] at hab; cases hab
theorem used_le_len {Z : Nat} : ∀ (l : List FileD), (∀ f ∈ l, f.b.size ≤ Z) → usedL l ≤ l.length * Z := by
  intro l
  induction l with
  | nil => intro _; exact Nat.zero_le _
  | cons f l ih =>
    intro h
    have h1 := h f (by simp)
    have h2 := ih fun g hg => h g (by simp [hg])
    rw [usedL_cons, List.length_cons, Nat.succ_mul]
    omega
/-- a checkpoint's file -/
def fileK (k : Nat) (b : ByteArray) : FileD := ⟨nameC k, fileC k b, (fileC k b).size⟩
/-- which checkpoints there are -/
abbrev MapC := Nat → Option ByteArray
def putC (M : MapC) (k : Nat) (b : ByteArray) : MapC := fun j => if j = k then some b else M j
def dropM (M : MapC) (below : Int) : MapC := fun j => if (j : Int) < below then none else M j
/-- what an earlier write left -/
def TOkC (Z : Nat) (T : List FileD) : Prop := T = [] ∨ ∃ b s, T = [⟨tmpC, b, s⟩] ∧ b.size ≤ Z + 17 ∧ -1 ≤ s ∧ s ≤ b.size
theorem TOkC.name {Z : Nat} {T : List FileD} (h : TOkC Z T) : ∀ f ∈ T, f.name = tmpC ∧ f.b.size ≤ Z + 17 := by
  rcases h with rfl | ⟨b, s, rfl, hb, -⟩
  · intro f hf; cases hf
  · intro f hf; rw [List.mem_singleton.1 hf]; exact ⟨rfl, hb⟩
structure InvC (K Z : Nat) (M : MapC) (T L : List FileD) : Prop where
  sorted : SortedF L
  mem : ∀ f, f ∈ L ↔ f ∈ T ∨ ∃ k b, M k = some b ∧ f = fileK k b
  key : ∀ k b, M k = some b → k < K ∧ b.size ≤ Z
  tmp : TOkC Z T
  lim : K ≤ 100 ∧ Z ≤ 100000
def filesL (K : Nat) (M : MapC) : List FileD := (List.range K).filterMap fun k => (M k).map (fileK k)
def keysC (K : Nat) (M : MapC) : List Nat := (List.range K).filter fun k => (M k).isSome
theorem keysC_mem {K : Nat} {M : MapC} {k : Nat} : k ∈ keysC K M ↔ k < K ∧ (M k).isSome = true := by unfold keysC; rw [List.mem_filter, List.mem_range]
theorem keysC_lt (K : Nat) (M : MapC) : (keysC K M).Pairwise (· < ·) := List.Pairwise.sublist List.filter_sublist List.pairwise_lt_range
theorem filesL_nodup (K : Nat) (M : MapC) : (filesL K M).Nodup := by
  unfold filesL List.Nodup
  rw [List.pairwise_filterMap]
  refine List.Pairwise.imp ?_ (List.nodup_range (n := K))
  intro a a' hne b hb b' hb' e
  obtain ⟨x, -, rfl⟩ := Option.map_eq_some_iff.1 hb
  obtain ⟨x', -, rfl⟩ := Option.map_eq_some_iff.1 hb'
  exact hne (nameC_inj (congrArg FileD.name e))
theorem fileK_bad {k : Nat} (h : k ≤ 4294967296) (b : ByteArray) : badN (fileK k b).name = false := nameC_bad h
section
variable {K Z : Nat} {M : MapC} {T L : List FileD} (h : InvC K Z M T L)
include h
theorem InvC.kl {k : Nat} {b : ByteArray} (hk : M k = some b) : k ≤ 1000 := by have := (h.key k b hk).1; have := h.lim.1; omega
theorem InvC.perm : L.Perm (T ++ filesL K M) := by
  refine (List.perm_ext_iff_of_nodup (sortedF_nodup h.sorted) ?_).2 fun f => ?_
  · refine List.nodup_append.2 ⟨?_, filesL_nodup K M, fun x hx y hy e => ?_⟩
    · rcases h.tmp with h1 | ⟨b', s', h1, _⟩ <;> rw [h1] <;> simp
    · subst e
      have h1 := (h.tmp.name x hx).1
      unfold filesL at hy
      obtain ⟨k, _, hk⟩ := List.mem_filterMap.1 hy
      obtain ⟨c, -, rfl⟩ := Option.map_eq_some_iff.1 hk
      exact nameC_tmp h1
  · rw [h.mem, List.mem_append]
    refine or_congr Iff.rfl ?_
    unfold filesL
    rw [List.mem_filterMap]
    constructor
    · rintro ⟨k, b, hk, rfl⟩
      exact ⟨k, List.mem_range.2 (h.key k b hk).1, by rw [hk]; rfl⟩
    · rintro ⟨k, -, hk⟩
      obtain ⟨c, hc, rfl⟩ := Option.map_eq_some_iff.1 hk
      exact ⟨k, c, hc, rfl⟩
theorem InvC.len : L.length ≤ K + 1 := by
  rw [h.perm.length_eq, List.length_append]
  have h1 : (filesL K M).length ≤ K := Nat.le_trans (List.length_filterMap_le _ _) (by simp)
  have h2 : T.length ≤ 1 := by rcases h.tmp with h1 | ⟨b', s', h1, _⟩ <;> rw [h1] <;> simp
  omega
theorem InvC.size (f : FileD) (hf : f ∈ L) : f.b.size ≤ Z + 17 := by
  rcases (h.mem f).1 hf with hf | ⟨k, b, hk, rfl⟩
  · exact (h.tmp.name f hf).2
  · have := (h.key k b hk).2
    show (fileC k b).size ≤ _
    rw [fileC_size]; omega
theorem InvC.used : usedL L ≤ (K + 1) * (Z + 17) := Nat.le_trans (used_le_len L h.size) (Nat.mul_le_mul_right _ h.len)
theorem InvC.file {k : Nat} {b : ByteArray} (hk : M k = some b) : fileK k b ∈ L := (h.mem _).2 (.inr ⟨k, b, hk, rfl⟩)
theorem InvC.noName {k : Nat} (hk : M k = none) : ∀ g ∈ L, g.name ≠ nameC k := by
  intro g hg e
  rcases (h.mem g).1 hg with hg | ⟨j, b, hj, rfl⟩
  · exact nameC_tmp (e.symm.trans (h.tmp.name g hg).1)
  · have := nameC_inj (show nameC j = nameC k from e)
    subst this
    rw [hk] at hj; cases hj
theorem InvC.noTmp (hT : T = []) : ∀ g ∈ L, g.name ≠ tmpC := by
  intro g hg e
  rcases (h.mem g).1 hg with hg | ⟨j, b, hj, rfl⟩
  · rw [hT] at hg; cases hg
  · exact nameC_tmp e
theorem InvC.safe : ∀ f ∈ L, SafeOk f := by
  intro f hf
  rcases (h.mem f).1 hf with hf | ⟨k, b, hk, rfl⟩
  · rcases h.tmp with rfl | ⟨b, s, rfl, _, h2, h3⟩
    · cases hf
    · rw [List.mem_singleton.1 hf]; exact ⟨h2, h3⟩
  · exact ⟨by show (-1 : Int) ≤ ((fileC k b).size : Int); omega, Int.le_refl _⟩
theorem InvC.names : ∀ f ∈ L, f.name.size ≤ 1000 := by
  intro f hf
  rcases (h.mem f).1 hf with hf | ⟨k, b, hk, rfl⟩
  · rw [(h.tmp.name f hf).1]; decide
  · have := (nameC_size (n := k) (by have := h.kl hk; omega)).2
    show (nameC k).size ≤ _; omega
/-- READ -/
theorem read_inv (q n l : Int) (k : Nat) (hk : k ≤ 1073741824) : readC ⟨L, q, n, l, false⟩ k = match M k with | some b => (0, b) | none => (190, ByteArray.empty) := by
  unfold readC
  rw [if_neg (by omega), Int.toNat_natCast]
  cases hm : M k with
  | none =>
    rw [read_memnt (h.noName hm) (nameC_bad (by omega))]
    rfl
  | some b =>
    have hr : (⟨L, q, n, l, false⟩ : DiskD).read (nameC k) = (0, fileC k b) := read_mem h.sorted (h.file hm) (fileK_bad (by omega) b)
    rw [hr]
    have hd : dataC k (fileC k b) = some b := dataC_file (by have := (h.key k b hm).2; have := h.lim.2; omega)
    simp [hd]
/-- the steps that are there -/
theorem all_inv (q n l : Int) : allC ⟨L, q, n, l, false⟩ = keysC K M := by
  have hst : stepsOf ⟨L, q, n, l, false⟩ = L.filterMap fun f => stepOf f.name := by unfold stepsOf; rw [List.filterMap_map]; rfl
  have hp : (stepsOf ⟨L, q, n, l, false⟩).Perm (keysC K M) := by
    rw [hst]
    refine (h.perm.filterMap _).trans ?_
    rw [List.filterMap_append]
    have hT : T.filterMap (fun f => stepOf f.name) = [] := by
      rw [List.filterMap_eq_nil_iff]
      intro f hf
      rw [(h.tmp.name f hf).1]
      cases hs : stepOf tmpC with
      | none => rfl
      | some j => exact absurd (stepOf_some.1 hs).2 nameC_tmp
    rw [hT, List.nil_append]
    unfold filesL keysC
    rw [List.filterMap_filterMap]
    have hgo : ∀ l : List Nat, (∀ k ∈ l, k < K) → l.filterMap (fun k => ((M k).map (fileK k)).bind fun f => stepOf f.name) = l.filter fun k => (M k).isSome := by
      intro l
      induction l with
      | nil => intro _; rfl
      | cons k l ih =>
        intro hl
        have h1 := ih fun j hj => hl j (by simp [hj])
        have h2 := hl k (by simp)
        have := h.lim.1
        rw [List.filter_cons, List.filterMap_cons]
        cases hm : M k with
        | none => simpa using h1
        | some b =>
          have hs : stepOf (fileK k b).name = some k := stepOf_name (by omega)
          simp only [Option.map_some, Option.bind_some, hs, Option.isSome_some, if_true]
          rw [h1]
    rw [hgo _ fun k hk => List.mem_range.1 hk]
  unfold allC
  refine List.Perm.eq_of_pairwise (le := fun a b : Nat => a ≤ b) (fun a b _ _ h1 h2 => Nat.le_antisymm h1 h2) ?_ ?_ ((List.mergeSort_perm _ _).trans hp)
  · refine List.Pairwise.imp ?_ (List.pairwise_mergeSort (le := fun a b : Nat => decide (a ≤ b)) (fun a b c h1 h2 => by simp at h1 h2 ⊢; omega) (fun a b => by simp; omega) _)
    intro a b hab
    exact of_decide_eq_true hab
  · exact (keysC_lt K M).imp fun {a b} hab => Nat.le_of_lt hab
theorem steps_inv (q n l : Int) : stepsC ⟨L, q, n, l, false⟩ = keysC K M := by
  unfold stepsC
  rw [all_inv h, List.filter_eq_self]
  intro k hk
  obtain ⟨h1, h2⟩ := keysC_mem.1 hk
  obtain ⟨b, hb⟩ := Option.isSome_iff_exists.1 h2
  rw [read_inv h q n l k (by have := h.kl hb; omega), hb]
  exact decide_eq_true rfl
end
/-- CLEAR -/
theorem clear_inv {K Z : Nat} {M : MapC} {T L : List FileD} {q n l : Int} (h : InvC K Z M T L) (hl : -1 ≤ l) :
    (∃ L' n' l', clearC ⟨L, q, n, l, false⟩ = (0, ⟨L', q, n', l', false⟩) ∧ InvC K Z M [] L' ∧ n ≤ n' ∧ n' ≤ n + 1 ∧ -1 ≤ l' ∧ l' ≤ max l (-1) ∧ (l = -1 → l' = -1)) ∨ (l = 0 ∧ clearC ⟨L, q, n, l, false⟩ = (160, ⟨L, q, n + 1, -1, true⟩)) := by
  rcases h.tmp with hT | ⟨b, s, hT, hb, -⟩
  · refine .inl ⟨L, n, l, ?_, by rw [← hT]; exact h, by omega, by omega, hl, by omega, id⟩
    unfold clearC
    rw [read_memnt (h.noTmp hT) tmpC_bad, if_pos (by show (5 : Int) ≠ 0; decide)]
  · have hf : (⟨tmpC, b, s⟩ : FileD) ∈ L := (h.mem _).2 (.inl (by rw [hT]; simp))
    have hr : (⟨L, q, n, l, false⟩ : DiskD).read tmpC = (0, b) := read_mem h.sorted hf tmpC_bad
    obtain ⟨L', hs, hm, he⟩ := remove_mem (q := q) (n := n) (l := l) h.sorted hf tmpC_bad
    have hc : clearC ⟨L, q, n, l, false⟩ = if l = 0 then (160, ⟨L, q, n + 1, -1, true⟩) else (0, ⟨L', q, n + 1, lessL l, false⟩) := by
      unfold clearC
      rw [hr, if_neg (by simp)]
      exact he
    rw [hc]
    by_cases c0 : l = 0
    · exact .inr ⟨c0, by rw [if_pos c0]⟩
    · obtain ⟨l1, l2, l3, -⟩ := lessL_le l hl
      refine .inl ⟨L', n + 1, lessL l, by rw [if_neg c0], ⟨hs, fun f => ?_, h.key, .inl rfl, h.lim⟩, by omega, by omega, l1, l2, l3⟩
      rw [hm, h.mem, hT]
      constructor
      · rintro ⟨hf | hf, hn⟩
        · rw [List.mem_singleton.1 hf] at hn; exact absurd rfl hn
        · exact .inr hf
      · rintro (hf | ⟨k, c, hk, rfl⟩)
        · cases hf
        · exact ⟨.inr ⟨k, c, hk, rfl⟩, nameC_tmp⟩
/-- OPEN -/
theorem open_inv {K Z : Nat} {M : MapC} {T L : List FileD} {q n l : Int} (h : InvC K Z M T L) (hl : -1 ≤ l) :
    (∃ L' n' l', openC ⟨L, q, n, l, false⟩ = (0, ⟨L', q, n', l', false⟩) ∧ InvC K Z M [] L' ∧ n ≤ n' ∧ n' ≤ n + 1 ∧ -1 ≤ l' ∧ l' ≤ max l (-1) ∧ (l = -1 → l' = -1)) ∨ (l = 0 ∧ openC ⟨L, q, n, l, false⟩ = (160, ⟨L, q, n + 1, -1, true⟩)) := by
  have : openC ⟨L, q, n, l, false⟩ = clearC ⟨L, q, n, l, false⟩ := by unfold openC; rw [if_neg (by simp)]
  rw [this]
  exact clear_inv h hl
theorem outC_160 (D : DiskD) : outC 160 D = (160, D) := by unfold outC; rw [if_neg (by decide)]
/-- WRITE -/
theorem write_inv {K Z : Nat} {M : MapC} {T L : List FileD} {q n l : Int} (h : InvC K Z M T L) (hl : -1 ≤ l) {k : Nat} {b : ByteArray} (hk : k < K) (hb : b.size ≤ Z) (hq : ((K + 2) * (Z + 17) : Nat) ≤ q) :
    ∃ L' n' l', n ≤ n' ∧ n' ≤ n + 4 ∧ -1 ≤ l' ∧ l' ≤ max l (-1) ∧
      ((writeC ⟨L, q, n, l, false⟩ k b = (0, ⟨L', q, n', l', false⟩) ∧ InvC K Z (putC M k b) [] L' ∧ (l = -1 → l' = -1)) ∨
        (l ≠ -1 ∧ ∃ T', writeC ⟨L, q, n, l, false⟩ k b = (160, ⟨L', q, n', -1, true⟩) ∧ InvC K Z M T' L')) := by
  have hlim := h.lim
  have hfs := fileC_size k b
  unfold writeC
  rw [if_neg (by omega), if_neg (by omega), if_neg (by simp), Int.toNat_natCast]
  rcases clear_inv (q := q) (n := n) h hl with ⟨L1, n1, l1, hc, h1, a1, a2, a3, a4, a5⟩ | ⟨c0, hc⟩
  case inr =>
    rw [hc, if_pos (by show (160 : Int) ≠ 0; decide), outC_160]
    exact ⟨L, n + 1, -1, by omega, by omega, by omega, by omega, .inr ⟨by omega, T, rfl, h⟩⟩
  rw [hc, if_neg (by simp)]
  dsimp only
  have hu := h1.used
  have hmul : (K + 2) * (Z + 17) = (K + 1) * (Z + 17) + (Z + 17) := by rw [show K + 2 = (K + 1) + 1 from rfl, Nat.succ_mul]
  obtain ⟨L2, s2, m2, e2⟩ := append_mem (q := q) (n := n1) (l := l1) h1.sorted (t := tmpC) (b := fileC k b) tmpC_bad (h1.noTmp rfl) (by omega) (by omega)
  obtain ⟨b1, b2, b3, b4⟩ := lessL_le l1 a3
  have i2 : ∀ s : Int, -1 ≤ s → s ≤ (fileC k b).size → ∀ L', SortedF L' → (∀ g, g ∈ L' ↔ g = ⟨tmpC, fileC k b, s⟩ ∨ g ∈ L1) → InvC K Z M [⟨tmpC, fileC k b, s⟩] L' := by
    intro s hs1 hs2 L' hs hm
    refine ⟨hs, fun f => ?_, h.key, .inr ⟨_, _, rfl, by omega, hs1, hs2⟩, h.lim⟩
    rw [hm, h1.mem, List.mem_singleton]
    simp
  rw [e2]
  by_cases c1 : l1 = 0
  · rw [if_pos c1, if_pos (by show (160 : Int) ≠ 0; decide), outC_160]
    exact ⟨L2, n1 + 1, -1, by omega, by omega, by omega, by omega, .inr ⟨fun e => by have := a5 e; omega, _, rfl, i2 (-1) (by omega) (by omega) L2 s2 m2⟩⟩
  rw [if_neg c1, if_neg (by simp)]
  dsimp only
  obtain ⟨L3, s3, m3, e3⟩ := sync_mem (q := q) (n := n1 + 1) (l := lessL l1) s2 ((m2 _).2 (.inl rfl)) tmpC_bad
  obtain ⟨d1, d2, d3, d4⟩ := lessL_le (lessL l1) b1
  have e3' : (⟨L2, q, n1 + 1, lessL l1, false⟩ : DiskD).step 0 tmpC tmpC 0 true = _ := e3
  have m3' : ∀ g, g ∈ L3 ↔ g = ⟨tmpC, fileC k b, (fileC k b).size⟩ ∨ g ∈ L1 := by
    intro g
    rw [m3, m2]
    refine or_congr Iff.rfl ⟨?_, fun hg => ⟨.inr hg, h1.noTmp rfl g hg⟩⟩
    rintro ⟨rfl | hg, hn⟩
    · exact absurd rfl hn
    · exact hg
  rw [e3']
  by_cases c2 : lessL l1 = 0
  · rw [if_pos c2, if_pos (by show (160 : Int) ≠ 0; decide), outC_160]
    exact ⟨L2, n1 + 1 + 1, -1, by omega, by omega, by omega, by omega, .inr ⟨fun e => by have := b3 (a5 e); omega, _, rfl, i2 (-1) (by omega) (by omega) L2 s2 m2⟩⟩
  rw [if_neg c2, if_neg (by simp)]
  dsimp only
  obtain ⟨L4, s4, m4, e4⟩ := rename_mem (q := q) (n := n1 + 1 + 1) (l := lessL (lessL l1)) s3 ((m3' _).2 (.inl rfl)) tmpC_bad (dst := nameC k) (nameC_bad (by omega))
  obtain ⟨f1, f2, f3, f4⟩ := lessL_le (lessL (lessL l1)) d1
  have e4' : (⟨L3, q, n1 + 1 + 1, lessL (lessL l1), false⟩ : DiskD).step 2 tmpC (nameC k) 0 true = _ := e4
  rw [e4']
  by_cases c3 : lessL (lessL l1) = 0
  · rw [if_pos c3, if_pos (by show (160 : Int) ≠ 0; decide), outC_160]
    exact ⟨L3, n1 + 1 + 1 + 1, -1, by omega, by omega, by omega, by omega, .inr ⟨fun e => by have := d3 (b3 (a5 e)); omega, _, rfl, i2 _ (by omega) (by omega) L3 s3 m3'⟩⟩
  rw [if_neg c3, if_neg (by simp)]
  refine ⟨L4, n1 + 1 + 1 + 1, lessL (lessL (lessL l1)), by omega, by omega, f1, by omega, .inl ⟨rfl, ⟨s4, fun f => ?_, ?_, .inl rfl, h.lim⟩, fun e => f3 (d3 (b3 (a5 e)))⟩⟩
  · rw [m4, m3', h1.mem]
    constructor
    · rintro (rfl | ⟨⟨rfl | hg | ⟨j, c, hj, rfl⟩, hn⟩, hn2⟩)
      · exact .inr ⟨k, b, by unfold putC; rw [if_pos rfl], rfl⟩
      · exact absurd rfl hn
      · cases hg
      · refine .inr ⟨j, c, ?_, rfl⟩
        unfold putC
        rw [if_neg (fun e => hn2 (by rw [e]; rfl))]
        exact hj
    · rintro (hg | ⟨j, c, hj, rfl⟩)
      · cases hg
      · unfold putC at hj
        by_cases hjk : j = k
        · subst hjk
          rw [if_pos rfl] at hj
          injection hj with hj
          subst hj
          exact .inl rfl
        · rw [if_neg hjk] at hj
          exact .inr ⟨⟨.inr (.inr ⟨j, c, hj, rfl⟩), nameC_tmp⟩, fun e => hjk (nameC_inj e)⟩
  · intro j c hj
    unfold putC at hj
    split at hj
    · rename_i hjk
      injection hj with hj
      subst hj hjk
      exact ⟨hk, hb⟩
    · exact h.key j c hj
/-- a file is removed -/
theorem del_inv {K Z : Nat} {M : MapC} {T L L' : List FileD} {k : Nat} (h : InvC K Z M T L) (hs : SortedF L') (hm : ∀ g, g ∈ L' ↔ g ∈ L ∧ g.name ≠ nameC k) : InvC K Z (fun j => if j = k then none else M j) T L' := by
  refine ⟨hs, fun f => ?_, fun j c hj => ?_, h.tmp, h.lim⟩
  · rw [hm, h.mem]
    constructor
    · rintro ⟨hf | ⟨j, c, hj, rfl⟩, hn⟩
      · exact .inl hf
      · exact .inr ⟨j, c, by rw [if_neg (fun e => hn (by rw [e]; rfl))]; exact hj, rfl⟩
    · rintro (hf | ⟨j, c, hj, rfl⟩)
      · exact ⟨.inl hf, fun e => nameC_tmp (e.symm.trans (h.tmp.name f hf).1)⟩
      · by_cases hjk : j = k
        · rw [if_pos hjk] at hj; cases hj
        · rw [if_neg hjk] at hj
          exact ⟨.inr ⟨j, c, hj, rfl⟩, fun e => hjk (nameC_inj e)⟩
  · by_cases hjk : j = k
    · rw [if_pos hjk] at hj; cases hj
    · rw [if_neg hjk] at hj
      exact h.key j c hj
theorem dropGo_inv {K Z : Nat} {T : List FileD} {q below : Int} : ∀ (ks : List Nat) {M : MapC} {L : List FileD} {n l : Int}, InvC K Z M T L → -1 ≤ l → ks.Pairwise (· < ·) → (∀ k ∈ ks, (M k).isSome = true) →
    ∃ M' L' n' l', n ≤ n' ∧ n' ≤ n + ks.length ∧ -1 ≤ l' ∧ l' ≤ max l (-1) ∧ InvC K Z M' T L' ∧
      ((dropGo below ⟨L, q, n, l, false⟩ ks = (0, ⟨L', q, n', l', false⟩) ∧ (l = -1 → l' = -1) ∧ ∀ j, M' j = if j ∈ ks ∧ (j : Int) < below then none else M j) ∨
        (l ≠ -1 ∧ dropGo below ⟨L, q, n, l, false⟩ ks = (160, ⟨L', q, n', -1, true⟩) ∧ ∀ j, M' j = M j ∨ M' j = none ∧ (j : Int) < below)) := by
  intro ks
  induction ks with
  | nil =>
    intro M L n l h hl _ _
    exact ⟨M, L, n, l, by omega, by simp, hl, by omega, h, .inl ⟨rfl, id, fun j => by simp⟩⟩
  | cons k ks ih =>
    intro M L n l h hl hp hs
    obtain ⟨p1, p2⟩ := List.pairwise_cons.1 hp
    rw [dropGo]
    by_cases hbk : below ≤ (k : Int)
    · rw [if_pos hbk]
      refine ⟨M, L, n, l, by omega, by omega, hl, by omega, h, .inl ⟨rfl, id, fun j => ?_⟩⟩
      rw [if_neg]
      rintro ⟨hj, hjb⟩
      rcases List.mem_cons.1 hj with rfl | hj
      · omega
      · have := p1 j hj; omega
    · rw [if_neg hbk]
      obtain ⟨b, hb⟩ := Option.isSome_iff_exists.1 (hs k (by simp))
      obtain ⟨L', hs', hm', he⟩ := remove_mem (q := q) (n := n) (l := l) h.sorted (h.file hb) (fileK_bad (by have := h.kl hb; omega) b)
      have he' : (⟨L, q, n, l, false⟩ : DiskD).step 3 (nameC k) (nameC k) 0 true = _ := he
      rw [he']
      by_cases c0 : l = 0
      · rw [if_pos c0, if_pos (by show (160 : Int) ≠ 0; decide)]
        exact ⟨M, L, n + 1, -1, by omega, by simp; omega, by omega, by omega, h, .inr ⟨by omega, rfl, fun j => .inl rfl⟩⟩
      · rw [if_neg c0, if_neg (by simp)]
        obtain ⟨l1, l2, l3, l4⟩ := lessL_le l hl
        have h' := del_inv (k := k) h hs' hm'
        obtain ⟨M2, L2, n2, l2', a1, a2, a3, a4, a5, a6⟩ := ih (n := n + 1) h' l1 p2 (fun j hj => by
          have := p1 j hj
          rw [if_neg (by omega)]
          exact hs j (by simp [hj]))
        refine ⟨M2, L2, n2, l2', by omega, by rw [List.length_cons]; omega, a3, by omega, a5, ?_⟩
        rcases a6 with ⟨b1, b2, b3⟩ | ⟨b1, b2, b3⟩
        · refine .inl ⟨b1, fun e => b2 (l3 e), fun j => ?_⟩
          rw [b3]
          by_cases hjk : j = k
          · subst hjk
            have h2 : j ∈ j :: ks ∧ (j : Int) < below := ⟨by simp, by omega⟩
            rw [if_pos h2]
            split
            · rfl
            · simp
          · rw [if_neg hjk]
            have : (j ∈ k :: ks ∧ (j : Int) < below) ↔ (j ∈ ks ∧ (j : Int) < below) := by simp [hjk]
            simp only [this]
        · refine .inr ⟨l4 c0 b1, b2, fun j => ?_⟩
          rcases b3 j with h1 | h1
          · by_cases hjk : j = k
            · subst hjk
              rw [if_pos rfl] at h1
              exact .inr ⟨h1, by omega⟩
            · rw [if_neg hjk] at h1
              exact .inl h1
          · exact .inr h1
/-- DROP -/
theorem drop_inv {K Z : Nat} {M : MapC} {T L : List FileD} {q n l : Int} (h : InvC K Z M T L) (hl : -1 ≤ l) (below : Int) :
    ∃ M' L' n' l', n ≤ n' ∧ n' ≤ n + K ∧ -1 ≤ l' ∧ l' ≤ max l (-1) ∧ InvC K Z M' T L' ∧
      ((dropC ⟨L, q, n, l, false⟩ below = (0, ⟨L', q, n', l', false⟩) ∧ (l = -1 → l' = -1) ∧ M' = dropM M below) ∨
        (l ≠ -1 ∧ dropC ⟨L, q, n, l, false⟩ below = (160, ⟨L', q, n', -1, true⟩) ∧ ∀ j, M' j = M j ∨ M' j = none ∧ (j : Int) < below)) := by
  obtain ⟨M', L', n', l', a1, a2, a3, a4, a5, a6⟩ := dropGo_inv (q := q) (below := below) (keysC K M) (n := n) h hl (keysC_lt K M) (fun k hk => (keysC_mem.1 hk).2)
  have hlen : (keysC K M).length ≤ K := by unfold keysC; exact Nat.le_trans (List.length_filter_le _ _) (by simp)
  have hd : dropC ⟨L, q, n, l, false⟩ below = dropGo below ⟨L, q, n, l, false⟩ (keysC K M) := by unfold dropC; rw [if_neg (by simp), all_inv h]
  rw [hd]
  refine ⟨M', L', n', l', a1, by omega, a3, a4, a5, ?_⟩
  rcases a6 with ⟨b1, b2, b3⟩ | b
  · refine .inl ⟨b1, b2, funext fun j => ?_⟩
    rw [b3]
    unfold dropM
    by_cases hj : (j : Int) < below
    · rw [if_pos hj]
      cases hm : M j with
      | none => split <;> rfl
      | some c => rw [if_pos ⟨keysC_mem.2 ⟨(h.key j c hm).1, by rw [hm]; rfl⟩, hj⟩]
    · rw [if_neg hj, if_neg (fun e => hj e.2)]
  · exact .inr b
theorem inv_nil {K Z : Nat} (h : K ≤ 100 ∧ Z ≤ 100000) : InvC K Z (fun _ => none) [] [] :=
  ⟨List.Pairwise.nil, fun f => ⟨(fun h => by cases h), (fun h => by rcases h with h | ⟨k, b, h, -⟩ <;> cases h)⟩, (fun k b h => by cases h), .inl rfl, h⟩
end Go.Proofs.YthmcimpdehgaoaaGreatDoor
