/- Files of a disk as a set, and its steps, armed or not, in plain words. -/
import Derived.Test.YtlcgkcafelpglaaGreatDoorPk16
namespace Go.Proofs.YtlcgkcafelpglaaGreatDoor
open Go.RowKit

/-- the files that are there are just these -/
def Has (L ss : List FileD) : Prop := SortedF L ∧ ss.Nodup ∧ ∀ f, f ∈ L ↔ f ∈ ss
theorem SortedF.nodupN {L : List FileD} (h : SortedF L) : (L.map (·.name)).Nodup :=
  List.Pairwise.imp (fun {a b} hab e => by subst e; rw [lessN_irrefl] at hab; cases hab) h
theorem nodup_of_map {α β : Type} (f : α → β) {l : List α} (h : (l.map f).Nodup) : l.Nodup := by
  rw [List.Nodup, List.pairwise_map] at h
  exact h.imp fun {a b} hab e => hab (by rw [e])
theorem SortedF.nodup {L : List FileD} (h : SortedF L) : L.Nodup := nodup_of_map _ h.nodupN
section
variable {L ss r : List FileD} {f g : FileD}
theorem Has.perm (h : Has L ss) : L.Perm ss := (List.perm_ext_iff_of_nodup h.1.nodup h.2.1).2 h.2.2
theorem Has.length (h : Has L ss) : L.length = ss.length := h.perm.length_eq
theorem Has.used (h : Has L ss) : usedL L = usedL ss := (h.perm.map _).sum_nat
theorem Has.perm_ {ss' : List FileD} (h : Has L ss) (hp : ss.Perm ss') : Has L ss' :=
  ⟨h.1, hp.nodup_iff.1 h.2.1, fun f => (h.2.2 f).trans hp.mem_iff⟩
theorem Has.unique (h : Has L ss) (hf : f ∈ ss) (hg : g ∈ ss) (hn : f.name = g.name) : f = g := h.1.unique ((h.2.2 f).2 hf) ((h.2.2 g).2 hg) hn
theorem has_nil : Has [] [] := ⟨List.Pairwise.nil, List.nodup_nil, fun _ => Iff.rfl⟩
theorem Has.nil_eq (h : Has L []) : L = [] := List.eq_nil_of_length_eq_zero h.length
theorem Has.one_eq (h : Has L [f]) : L = [f] := by
  have h1 := h.length
  match L, h1 with
  | [g], _ => rw [List.mem_singleton.1 ((h.2.2 g).1 (by simp))]
theorem Has.self (h : SortedF L) : Has L L := ⟨h, h.nodup, fun _ => Iff.rfl⟩
theorem Has.del {i : Nat} (h : Has L (f :: r)) (hi : L[i]? = some f) : Has (L.take i ++ L.drop (i + 1)) r := by
  have hn := List.nodup_cons.1 h.2.1
  refine ⟨del_sorted h.1 i, hn.2, fun g => ?_⟩
  rw [mem_del h.1 hi, h.2.2]
  constructor
  · rintro ⟨hg, hne⟩
    rcases List.mem_cons.1 hg with rfl | hg
    · exact absurd rfl hne
    · exact hg
  · intro hg
    refine ⟨List.mem_cons_of_mem _ hg, fun e => ?_⟩
    have := h.unique (List.mem_cons_of_mem _ hg) (List.mem_cons_self ..) e
    subst this
    exact hn.1 hg
theorem Has.put_new (h : Has L ss) (hn : ∀ g ∈ ss, g.name ≠ f.name) : Has (putF L f) (f :: ss) := by
  refine ⟨putF_sorted h.1 f, List.nodup_cons.2 ⟨fun hf => hn f hf rfl, h.2.1⟩, fun g => ?_⟩
  rw [mem_putF h.1, List.mem_cons]
  constructor
  · rintro (rfl | ⟨hg, _⟩)
    · exact .inl rfl
    · exact .inr ((h.2.2 g).1 hg)
  · rintro (rfl | hg)
    · exact .inl rfl
    · exact .inr ⟨(h.2.2 g).2 hg, hn g hg⟩
theorem Has.put_over (h : Has L (g :: r)) (hn : g.name = f.name) : Has (putF L f) (f :: r) := by
  have hnd := List.nodup_cons.1 h.2.1
  have hr : ∀ x ∈ r, x.name ≠ f.name := fun x hx e => by
    have := h.unique (List.mem_cons_of_mem _ hx) (List.mem_cons_self ..) (e.trans hn.symm)
    subst this
    exact hnd.1 hx
  refine ⟨putF_sorted h.1 f, List.nodup_cons.2 ⟨fun hf => hr f hf rfl, hnd.2⟩, fun x => ?_⟩
  rw [mem_putF h.1, List.mem_cons]
  constructor
  · rintro (rfl | ⟨hx, hne⟩)
    · exact .inl rfl
    · rcases List.mem_cons.1 ((h.2.2 x).1 hx) with rfl | hx
      · exact absurd hn hne
      · exact .inr hx
  · rintro (rfl | hx)
    · exact .inl rfl
    · exact .inr ⟨(h.2.2 x).2 (List.mem_cons_of_mem _ hx), hr x hx⟩
end
/-- what is left behind a step for which the power was there -/
def lessL (l : Int) : Int := if 0 < l then l - 1 else l
theorem power_eq (L : List FileD) (q n l : Int) : (⟨L, q, n, l, false⟩ : DiskD).power = if l = 0 then (160, ⟨L, q, n + 1, -1, true⟩) else (0, ⟨L, q, n + 1, lessL l, false⟩) := by
  unfold DiskD.power lessL
  dsimp only
  by_cases h0 : l = 0
  · rw [if_pos h0, if_pos h0]
  · rw [if_neg h0, if_neg h0]
    by_cases h1 : 0 < l
    · rw [if_pos h1, if_pos h1]
    · rw [if_neg h1, if_neg h1]
section
variable {L ss r : List FileD} {f : FileD} {q n l : Int}
theorem asked_ok {a b : ByteArray} (ha : badN a = false) (hb : badN b = false) : (⟨L, q, n, l, false⟩ : DiskD).asked [a, b] = 0 := by simp [DiskD.asked, ha, hb]
theorem step_has (h : Has L (f :: r)) (ht : badN f.name = false) {dst : ByteArray} (hd : badN dst = false) (kind : Int) : ∃ i, L[i]? = some f ∧
    (⟨L, q, n, l, false⟩ : DiskD).step kind f.name dst 0 true = if l = 0 then (160, ⟨L, q, n + 1, -1, true⟩) else (0, ⟨doesL kind L i f.b.size dst f, q, n + 1, lessL l, false⟩) := by
  obtain ⟨i, h1, h2⟩ := at_mem (D := ⟨L, q, n, l, false⟩) h.1 ((h.2.2 f).2 (List.mem_cons_self ..))
  refine ⟨i, h2, ?_⟩
  unfold DiskD.step
  rw [asked_ok ht hd, if_neg (by simp), h1]
  dsimp only
  rw [if_pos rfl, if_neg (by omega), power_eq]
  by_cases h0 : l = 0
  · rw [if_pos h0, if_pos h0]; simp
  · rw [if_neg h0, if_neg h0]; simp
theorem remove_has (h : Has L (f :: r)) (ht : badN f.name = false) : ∃ L', Has L' r ∧
    (⟨L, q, n, l, false⟩ : DiskD).step 3 f.name f.name 0 true = if l = 0 then (160, ⟨L, q, n + 1, -1, true⟩) else (0, ⟨L', q, n + 1, lessL l, false⟩) := by
  obtain ⟨i, hi, he⟩ := step_has h ht ht 3 (q := q) (n := n) (l := l)
  refine ⟨_, ?_, he⟩
  have : doesL 3 L i f.b.size f.name f = L.take i ++ L.drop (i + 1) := by unfold doesL; rw [if_pos rfl]
  rw [this]
  exact h.del hi
theorem sync_has (h : Has L (f :: r)) (ht : badN f.name = false) : ∃ L', Has L' (⟨f.name, f.b, f.b.size⟩ :: r) ∧
    (⟨L, q, n, l, false⟩ : DiskD).step 0 f.name f.name 0 true = if l = 0 then (160, ⟨L, q, n + 1, -1, true⟩) else (0, ⟨L', q, n + 1, lessL l, false⟩) := by
  obtain ⟨i, hi, he⟩ := step_has h ht ht 0 (q := q) (n := n) (l := l)
  refine ⟨_, ?_, he⟩
  have hx : f.b.extract 0 f.b.size = f.b := by apply ByteArray.ext; simp
  rw [(does_safe h.1 hi f.b.size f.name (.inl rfl)).1, hx]
  exact h.put_over rfl
theorem rename_has (h : Has L (f :: r)) (ht : badN f.name = false) {dst : ByteArray} (hd : badN dst = false) (hn : ∀ g ∈ r, g.name ≠ dst) : ∃ L', Has L' (⟨dst, f.b, f.b.size⟩ :: r) ∧
    (⟨L, q, n, l, false⟩ : DiskD).step 2 f.name dst 0 true = if l = 0 then (160, ⟨L, q, n + 1, -1, true⟩) else (0, ⟨L', q, n + 1, lessL l, false⟩) := by
  obtain ⟨i, hi, he⟩ := step_has h ht hd 2 (q := q) (n := n) (l := l)
  refine ⟨_, ?_, he⟩
  have : doesL 2 L i f.b.size dst f = putF (L.take i ++ L.drop (i + 1)) ⟨dst, f.b, f.b.size⟩ := by unfold doesL putF; rw [if_neg (by decide), if_pos rfl]
  rw [this]
  exact (h.del hi).put_new hn
theorem append_has (h : Has L ss) {t b : ByteArray} (ht : badN t = false) (hn : ∀ g ∈ ss, g.name ≠ t) (hb : b.size ≤ 8388608) (hq : (usedL L : Int) + b.size ≤ q) : ∃ L', Has L' (⟨t, b, -1⟩ :: ss) ∧
    (⟨L, q, n, l, false⟩ : DiskD).append t b = if l = 0 then (160, ⟨L', q, n + 1, -1, true⟩) else (0, ⟨L', q, n + 1, lessL l, false⟩) := by
  have hno : ∀ g ∈ L, g.name ≠ t := fun g hg => hn g ((h.2.2 g).1 hg)
  have hw : (⟨L, q, n, l, false⟩ : DiskD).was t = ⟨t, ByteArray.empty, -1⟩ := by unfold DiskD.was; rw [at_no (D := ⟨L, q, n, l, false⟩) hno]
  have hbe : ByteArray.empty ++ b = b := by apply ByteArray.ext; simp
  refine ⟨putF L ⟨t, b, -1⟩, h.put_new hn, ?_⟩
  have ha : (⟨L, q, n, l, false⟩ : DiskD).asked [t] = 0 := by simp [DiskD.asked, ht]
  unfold DiskD.append
  rw [ha, if_neg (by simp), hw, if_neg (by show ¬ (8388608 : Int) < ((ByteArray.empty.size : Nat) : Int) + _; have : ByteArray.empty.size = 0 := rfl; omega), if_neg (by show ¬ q < ((usedL L : Nat) : Int) + _; omega), put_eq (D := ⟨L, q, n, l, false⟩) h.1, hw]
  dsimp only
  rw [hbe]
  exact power_eq _ _ _ _
theorem read_has (h : Has L ss) (hf : f ∈ ss) (ht : badN f.name = false) : (⟨L, q, n, l, false⟩ : DiskD).read f.name = (0, f.b) := by
  obtain ⟨i, h1, h2⟩ := find_mem h.1 ((h.2.2 f).2 hf)
  have ha : (⟨L, q, n, l, false⟩ : DiskD).asked [f.name] = 0 := by simp [DiskD.asked, ht]
  unfold DiskD.read
  rw [ha, if_neg (by simp)]
  show (if (findN (L.map (·.name)) f.name).2 = true then _ else _) = _
  rw [h1, if_pos rfl]
  show ((0 : Int), (L.map (·.b)).getD i ByteArray.empty) = _
  rw [List.getD_eq_getElem?_getD, List.getElem?_map, h2]; rfl
theorem read_hasnt (h : Has L ss) {t : ByteArray} (hn : ∀ g ∈ ss, g.name ≠ t) (ht : badN t = false) : (⟨L, q, n, l, false⟩ : DiskD).read t = (5, ByteArray.empty) := by
  have ha : (⟨L, q, n, l, false⟩ : DiskD).asked [t] = 0 := by simp [DiskD.asked, ht]
  unfold DiskD.read
  rw [ha, if_neg (by simp)]
  show (if (findN (L.map (·.name)) t).2 = true then _ else _) = _
  rw [find_no (fun g hg => hn g ((h.2.2 g).1 hg)), if_neg (by simp)]
end
/-- a manifest's file -/
def fileM (m : ManM) : FileD := ⟨nameM m.n, m.bytes, 50⟩
/-- manifests that may lie there -/
def Good (m : ManM) : Prop := m.Ok ∧ m.may = true
theorem Good.pos {m : ManM} (h : Good m) : 1 ≤ m.n := by
  have := h.2
  unfold ManM.may at this
  simp only [Bool.and_eq_true, decide_eq_true_eq] at this
  omega
theorem fileM_bad {m : ManM} (h : m.Ok) : badN (fileM m).name = false := nameM_bad h.n
theorem snoc_ind {α : Type} {P : List α → Prop} (h0 : P []) (h1 : ∀ l a, P l → P (l ++ [a])) (l : List α) : P l := by
  have : ∀ n, P (l.take n) := by
    intro n
    induction n with
    | zero => simpa using h0
    | succ n ih =>
      rw [List.take_add_one]
      cases h : l[n]? with
      | none => simpa using ih
      | some a => exact h1 _ a ih
  have h := this l.length
  rwa [List.take_length] at h
/-- what a scan of names finds -/
theorem scan_inv {D : DiskD} {F : List ManM} (hg : ∀ m ∈ F, Good m) : ∀ (ns : List ByteArray), (∀ t ∈ ns, (∀ S, scanStep D S t = S) ∨ ∃ m ∈ F, t = nameM m.n ∧ (D.read t).2 = m.bytes) →
    (scanD D ns = ⟨zeroM, false⟩ ∨ (scanD D ns).some = true ∧ (scanD D ns).m ∈ F) ∧ ∀ m ∈ F, nameM m.n ∈ ns → (∀ S, scanStep D S (nameM m.n) = S) ∨ m.n ≤ (scanD D ns).m.n := by
  refine snoc_ind ?_ ?_
  · exact fun _ => ⟨.inl rfl, fun m _ h => absurd h (by simp)⟩
  · intro ns t ih h
    obtain ⟨h1, h2⟩ := ih (fun t ht => h t (List.mem_append_left _ ht))
    rw [scanD_snoc]
    rcases h t (by simp) with hs | ⟨m, hm, rfl, hr⟩
    · rw [hs]
      refine ⟨h1, fun m hm hn => ?_⟩
      rcases List.mem_append.1 hn with hn | hn
      · exact h2 m hm hn
      · obtain hn := List.mem_singleton.1 hn
        exact .inl (by rw [hn]; exact hs)
    · have hst : scanStep D (scanD D ns) (nameM m.n) = if (scanD D ns).m.n < m.n then ⟨m, true⟩ else scanD D ns := by
        unfold scanStep
        rw [hr, getM_bytes (hg m hm).1 (hg m hm).2]
        simp
      rw [hst]
      by_cases hlt : (scanD D ns).m.n < m.n
      · rw [if_pos hlt]
        refine ⟨.inr ⟨rfl, hm⟩, fun m' hm' hn => ?_⟩
        rcases List.mem_append.1 hn with hn | hn
        · rcases h2 m' hm' hn with hx | hx
          · exact .inl hx
          · refine .inr ?_
            show m'.n ≤ m.n
            omega
        · have := nameM_inj (by have := (hg m' hm').pos; omega) (by have := (hg m hm).pos; omega) (List.mem_singleton.1 hn)
          refine .inr ?_
          show m'.n ≤ m.n
          omega
      · rw [if_neg hlt]
        refine ⟨h1, fun m' hm' hn => ?_⟩
        rcases List.mem_append.1 hn with hn | hn
        · exact h2 m' hm' hn
        · have := nameM_inj (by have := (hg m' hm').pos; omega) (by have := (hg m hm).pos; omega) (List.mem_singleton.1 hn)
          exact .inr (by omega)
theorem scan_zero {D : DiskD} : ∀ (ns : List ByteArray), (∀ t ∈ ns, ∀ S, scanStep D S t = S) → scanD D ns = ⟨zeroM, false⟩ := by
  refine snoc_ind ?_ ?_
  · exact fun _ => rfl
  · intro ns t ih h
    rw [scanD_snoc, h t (by simp), ih (fun t ht => h t (List.mem_append_left _ ht))]
theorem scan_tmp {D : DiskD} (S : StD) : scanStep D S tmpN = S := by
  unfold scanStep
  cases h : getM (D.read tmpN).2 with
  | none => rfl
  | some m =>
    have hg := getM_some h
    have hp : Good m := ⟨hg.2.2.1, hg.2.1⟩
    show (if nameM m.n = tmpN ∧ _ then _ else _) = _
    rw [if_neg (fun e => nameM_tmp (by have := hp.pos; omega) e.1)]
end Go.Proofs.YtlcgkcafelpglaaGreatDoor
