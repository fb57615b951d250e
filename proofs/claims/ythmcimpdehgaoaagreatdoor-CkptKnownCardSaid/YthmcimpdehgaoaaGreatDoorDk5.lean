/- Files by their names: the order of names, the search's answer, what is put and dropped, in plain words. A disk's calls in plain words, where its files lie in the order of their names. -/
import Derived.Test.YthmcimpdehgaoaaGreatDoorDk4
import Derived.Sort.Walk0
namespace Go.Proofs.YthmcimpdehgaoaaGreatDoor
open Go.RowKit

theorem lessN_iff (s t : ByteArray) : lessN s t = true ↔ s.data.toList < t.data.toList := by
  unfold lessN
  rw [ByteArray.toList_eq, ByteArray.toList_eq, bytesLess_eq]
  simp
theorem lessN_irrefl (s : ByteArray) : lessN s s = false := by
  cases h : lessN s s with
  | false => rfl
  | true => exact absurd ((lessN_iff s s).1 h) (List.lt_irrefl _)
theorem lessN_trans {a b c : ByteArray} (h : lessN a b = true) (k : lessN b c = true) : lessN a c = true :=
  (lessN_iff a c).2 (List.lt_trans ((lessN_iff a b).1 h) ((lessN_iff b c).1 k))
theorem lessN_total {a b : ByteArray} (h : lessN a b = false) (k : lessN b a = false) : a = b := by
  have h1 : ¬ a.data.toList < b.data.toList := fun e => by rw [(lessN_iff a b).2 e] at h; cases h
  have h2 : ¬ b.data.toList < a.data.toList := fun e => by rw [(lessN_iff b a).2 e] at k; cases k
  have h3 := List.le_antisymm (List.not_lt.1 h2) (List.not_lt.1 h1)
  apply ByteArray.ext
  exact Array.ext' h3
theorem cmpN_neg (a b : ByteArray) : cmpN a b < 0 ↔ lessN a b = true := by
  unfold cmpN
  cases lessN a b
  · simp; split <;> omega
  · simp
theorem cmpN_zero (a b : ByteArray) : cmpN a b = 0 ↔ a = b := by
  constructor
  · intro h
    unfold cmpN at h
    split at h
    · omega
    · split at h
      · rename_i h2
        rw [ByteArray.toList_eq, ByteArray.toList_eq, beq_iff_eq] at h2
        apply ByteArray.ext
        exact Array.ext' h2
      · omega
  · rintro rfl; exact cmpN_self a
/-- names in their order, each once -/
def SortedN (l : List ByteArray) : Prop := l.Pairwise fun a b => lessN a b = true
theorem SortedN.lt {l : List ByteArray} (h : SortedN l) {i j : Nat} (hij : i < j) (hj : j < l.length) : lessN (l.getD i ByteArray.empty) (l.getD j ByteArray.empty) = true := by
  have := List.pairwise_iff_getElem.1 h i j (by omega) hj hij
  rw [List.getD_eq_getElem?_getD, List.getD_eq_getElem?_getD, List.getElem?_eq_getElem hj, List.getElem?_eq_getElem (by omega : i < l.length)]
  exact this
theorem bsGo_spec {l : List ByteArray} {t : ByteArray} (hs : SortedN l) : ∀ (f i j : Nat), i ≤ j → j ≤ l.length → j ≤ i + f → (∀ k, k < i → lessN (l.getD k ByteArray.empty) t = true) → (∀ k, j ≤ k → k < l.length → lessN (l.getD k ByteArray.empty) t = false) →
    (∀ k, k < bsGo l t f i j → lessN (l.getD k ByteArray.empty) t = true) ∧ (∀ k, bsGo l t f i j ≤ k → k < l.length → lessN (l.getD k ByteArray.empty) t = false) := by
  intro f
  induction f with
  | zero =>
    intro i j h1 h2 h3 h4 h5
    rw [bsGo]
    obtain rfl : i = j := by omega
    exact ⟨h4, h5⟩
  | succ f ih =>
    intro i j h1 h2 h3 h4 h5
    rw [bsGo]
    by_cases hij : i < j
    · rw [if_pos hij]
      obtain ⟨m, hm⟩ : ∃ m, (i + j) / 2 = m := ⟨_, rfl⟩
      have hm1 : i ≤ m := by omega
      have hm2 : m < j := by omega
      rw [hm]
      by_cases hc : cmpN (l.getD m ByteArray.empty) t < 0
      · rw [if_pos hc]
        have hl := (cmpN_neg _ _).1 hc
        refine ih (m + 1) j (by omega) h2 (by omega) (fun k hk => ?_) h5
        rcases Nat.lt_or_ge k m with hkm | hkm
        · exact lessN_trans (hs.lt hkm (by omega)) hl
        · obtain rfl : k = m := by omega
          exact hl
      · rw [if_neg hc]
        have hl : lessN (l.getD m ByteArray.empty) t = false := by
          cases hx : lessN (l.getD m ByteArray.empty) t with
          | false => rfl
          | true => exact absurd ((cmpN_neg _ _).2 hx) hc
        refine ih i m hm1 (by omega) (by omega) h4 (fun k hk hkl => ?_)
        rcases Nat.eq_or_lt_of_le hk with rfl | hk
        · exact hl
        · cases hx : lessN (l.getD k ByteArray.empty) t with
          | false => rfl
          | true => rw [lessN_trans (hs.lt hk hkl) hx] at hl; cases hl
    · rw [if_neg hij]
      obtain rfl : i = j := by omega
      exact ⟨h4, h5⟩
theorem findN_spec {l : List ByteArray} {t : ByteArray} (hs : SortedN l) : (∀ k, k < (findN l t).1 → lessN (l.getD k ByteArray.empty) t = true) ∧ (∀ k, (findN l t).1 ≤ k → k < l.length → lessN (l.getD k ByteArray.empty) t = false) :=
  bsGo_spec hs l.length 0 l.length (Nat.zero_le _) (Nat.le_refl _) (by omega) (fun k hk => absurd hk (by omega)) (fun k hk hk2 => absurd hk2 (by omega))
theorem findN_there {l : List ByteArray} {t : ByteArray} : (findN l t).2 = true ↔ (findN l t).1 < l.length ∧ l.getD (findN l t).1 ByteArray.empty = t := by
  show (decide (bsGo l t l.length 0 l.length < l.length) && cmpN (l.getD (bsGo l t l.length 0 l.length) ByteArray.empty) t == 0) = true ↔ bsGo l t l.length 0 l.length < l.length ∧ l.getD (bsGo l t l.length 0 l.length) ByteArray.empty = t
  rw [Bool.and_eq_true, decide_eq_true_eq, beq_iff_eq, cmpN_zero]
theorem getD_of {l : List ByteArray} {i : Nat} {t : ByteArray} (h : l[i]? = some t) : l.getD i ByteArray.empty = t := by rw [List.getD_eq_getElem?_getD, h]; rfl
theorem of_getD {l : List ByteArray} {i : Nat} {t : ByteArray} (hi : i < l.length) (h : l.getD i ByteArray.empty = t) : l[i]? = some t := by
  rw [List.getD_eq_getElem?_getD, List.getElem?_eq_getElem hi] at h
  rw [List.getElem?_eq_getElem hi]
  exact congrArg some h
theorem findN_at {l : List ByteArray} {t : ByteArray} (hs : SortedN l) {i : Nat} (h : l[i]? = some t) : findN l t = (i, true) := by
  have hi := (List.getElem?_eq_some_iff.1 h).1
  obtain ⟨h1, h2⟩ := findN_spec (t := t) hs
  have hr : (findN l t).1 = i := by
    rcases Nat.lt_trichotomy (findN l t).1 i with hlt | heq | hgt
    · have h3 := h2 _ (Nat.le_refl _) (by omega)
      have h4 := hs.lt hlt hi
      rw [getD_of h, h3] at h4
      cases h4
    · exact heq
    · have h3 := h1 i hgt
      rw [getD_of h, lessN_irrefl] at h3
      cases h3
  refine Prod.ext hr ?_
  exact findN_there.2 ⟨by omega, by rw [hr]; exact getD_of h⟩
theorem findN_no {l : List ByteArray} {t : ByteArray} (h : t ∉ l) : (findN l t).2 = false := by
  cases hx : (findN l t).2 with
  | false => rfl
  | true =>
    obtain ⟨h1, h2⟩ := findN_there.1 hx
    exact absurd (List.mem_of_getElem? (of_getD h1 h2)) h
/-- files in the order of their names -/
def SortedF (L : List FileD) : Prop := SortedN (L.map (·.name))
theorem SortedF.unique {L : List FileD} (h : SortedF L) {f g : FileD} (hf : f ∈ L) (hg : g ∈ L) (hn : f.name = g.name) : f = g := by
  obtain ⟨i, hi⟩ := List.mem_iff_getElem?.1 hf
  obtain ⟨j, hj⟩ := List.mem_iff_getElem?.1 hg
  have e1 : (L.map (·.name))[i]? = some f.name := by rw [List.getElem?_map, hi]; rfl
  have e2 : (L.map (·.name))[j]? = some f.name := by rw [List.getElem?_map, hj, hn]; rfl
  have h1 := findN_at h e1
  have h2 := findN_at h e2
  rw [h1] at h2
  injection h2 with h2
  subst h2
  rw [hi] at hj
  injection hj
section
variable {L : List FileD} (h : SortedF L)
include h
theorem find_mem {f : FileD} (hf : f ∈ L) : ∃ i, findN (L.map (·.name)) f.name = (i, true) ∧ L[i]? = some f := by
  obtain ⟨i, hi⟩ := List.mem_iff_getElem?.1 hf
  exact ⟨i, findN_at h (by rw [List.getElem?_map, hi]; rfl), hi⟩
omit h in
theorem find_no {t : ByteArray} (hn : ∀ f ∈ L, f.name ≠ t) : (findN (L.map (·.name)) t).2 = false :=
  findN_no fun hm => by
    obtain ⟨f, hf, he⟩ := List.mem_map.1 hm
    exact hn f hf he
/-- what is put in a row of files -/
def putF (L : List FileD) (f : FileD) : List FileD := putL L (findN (L.map (·.name)) f.name).1 (findN (L.map (·.name)) f.name).2 f
theorem putF_there {f g : FileD} (hg : g ∈ L) (hn : g.name = f.name) : ∃ i, L[i]? = some g ∧ putF L f = L.set i f := by
  obtain ⟨i, h1, h2⟩ := find_mem h hg
  rw [hn] at h1
  exact ⟨i, h2, by unfold putF putL; rw [h1, if_pos rfl]⟩
theorem putF_new {f : FileD} (hn : ∀ g ∈ L, g.name ≠ f.name) : ∃ i, i ≤ L.length ∧ putF L f = L.take i ++ f :: L.drop i ∧ (∀ g ∈ L.take i, lessN g.name f.name = true) ∧ ∀ g ∈ L.drop i, lessN f.name g.name = true := by
  have h1 := find_no hn
  obtain ⟨h2, h3⟩ := findN_spec (t := f.name) h
  have h4 := findN_le (L.map (·.name)) f.name
  rw [List.length_map] at h4
  refine ⟨_, h4, by unfold putF putL; rw [h1, if_neg (by simp)], fun g hg => ?_, fun g hg => ?_⟩
  · obtain ⟨k, hk⟩ := List.mem_iff_getElem?.1 hg
    rw [List.getElem?_take] at hk
    split at hk
    · rename_i hlt
      have := h2 k hlt
      rwa [getD_of (t := g.name) (by rw [List.getElem?_map, hk]; rfl)] at this
    · cases hk
  · obtain ⟨k, hk⟩ := List.mem_iff_getElem?.1 hg
    rw [List.getElem?_drop] at hk
    have hlt := (List.getElem?_eq_some_iff.1 hk).1
    have := h3 _ (Nat.le_add_right _ k) (by rw [List.length_map]; exact hlt)
    rw [getD_of (t := g.name) (by rw [List.getElem?_map, hk]; rfl)] at this
    cases hx : lessN f.name g.name with
    | true => rfl
    | false => exact absurd (lessN_total this hx) (hn g (List.mem_of_getElem? hk))
theorem putF_sorted (f : FileD) : SortedF (putF L f) := by
  by_cases hx : ∃ g ∈ L, g.name = f.name
  · obtain ⟨g, hg, hn⟩ := hx
    obtain ⟨i, hi, he⟩ := putF_there h hg hn
    rw [he]
    unfold SortedF
    rw [List.map_set, ← hn]
    have : (L.map (·.name)).set i g.name = L.map (·.name) := by
      apply List.ext_getElem?
      intro j
      rw [List.getElem?_set]
      split
      · rename_i hij
        subst hij
        split
        · rw [List.getElem?_map, hi]; rfl
        · rename_i hlt
          rw [List.getElem?_eq_none (by omega)]
      · rfl
    rw [this]
    exact h
  · obtain ⟨i, hi, he, h1, h2⟩ := putF_new h (f := f) (fun g hg hn => hx ⟨g, hg, hn⟩)
    rw [he]
    unfold SortedF SortedN at h ⊢
    have h0 : L.map (·.name) = (L.take i).map (·.name) ++ (L.drop i).map (·.name) := by rw [← List.map_append, List.take_append_drop]
    rw [h0, List.pairwise_append] at h
    rw [List.map_append, List.map_cons, List.pairwise_append, List.pairwise_cons]
    refine ⟨h.1, ⟨fun x hx => ?_, h.2.1⟩, fun x hx y hy => ?_⟩
    · obtain ⟨g, hg, rfl⟩ := List.mem_map.1 hx
      exact h2 g hg
    · obtain ⟨g, hg, rfl⟩ := List.mem_map.1 hx
      rcases List.mem_cons.1 hy with rfl | hy
      · exact h1 g hg
      · exact h.2.2 _ hx y hy
theorem mem_putF (f g : FileD) : g ∈ putF L f ↔ g = f ∨ g ∈ L ∧ g.name ≠ f.name := by
  by_cases hx : ∃ g ∈ L, g.name = f.name
  · obtain ⟨g0, hg0, hn⟩ := hx
    obtain ⟨i, hi, he⟩ := putF_there h hg0 hn
    rw [he]
    constructor
    · intro hg
      rcases List.mem_iff_getElem?.1 hg with ⟨j, hj⟩
      rw [List.getElem?_set] at hj
      split at hj
      · split at hj
        · injection hj with hj; exact .inl hj.symm
        · cases hj
      · rename_i hij
        have hgL := List.mem_of_getElem? hj
        refine .inr ⟨hgL, fun e => ?_⟩
        have := h.unique hgL hg0 (e.trans hn.symm)
        subst this
        obtain ⟨k, hk1, hk2⟩ := find_mem h hgL
        have e1 := findN_at h (t := g.name) (i := j) (by rw [List.getElem?_map, hj]; rfl)
        have e2 := findN_at h (t := g.name) (i := i) (by rw [List.getElem?_map, hi]; rfl)
        rw [e1] at e2
        injection e2 with e2
        exact hij e2.symm
    · rintro (rfl | ⟨hg, hne⟩)
      · exact List.mem_iff_getElem?.2 ⟨i, by rw [List.getElem?_set_self (List.getElem?_eq_some_iff.1 hi).1]⟩
      · obtain ⟨j, hj⟩ := List.mem_iff_getElem?.1 hg
        refine List.mem_iff_getElem?.2 ⟨j, ?_⟩
        rw [List.getElem?_set]
        split
        · rename_i hij
          subst hij
          rw [hi] at hj
          injection hj with hj
          subst hj
          exact absurd hn hne
        · exact hj
  · have hno : ∀ g ∈ L, g.name ≠ f.name := fun g hg hn => hx ⟨g, hg, hn⟩
    obtain ⟨i, hi, he, -, -⟩ := putF_new h hno
    rw [he, List.mem_append, List.mem_cons]
    constructor
    · rintro (hg | rfl | hg)
      · exact .inr ⟨List.mem_of_mem_take hg, hno g (List.mem_of_mem_take hg)⟩
      · exact .inl rfl
      · exact .inr ⟨List.mem_of_mem_drop hg, hno g (List.mem_of_mem_drop hg)⟩
    · rintro (rfl | ⟨hg, _⟩)
      · exact .inr (.inl rfl)
      · rw [← List.take_append_drop i L, List.mem_append] at hg
        rcases hg with hg | hg
        · exact .inl hg
        · exact .inr (.inr hg)
theorem del_sorted (i : Nat) : SortedF (L.take i ++ L.drop (i + 1)) := by
  unfold SortedF SortedN at h ⊢
  refine h.sublist (List.Sublist.map _ ?_)
  rw [← List.eraseIdx_eq_take_drop_succ]
  exact List.eraseIdx_sublist L i
theorem mem_del {i : Nat} {f : FileD} (hi : L[i]? = some f) (g : FileD) : g ∈ L.take i ++ L.drop (i + 1) ↔ g ∈ L ∧ g.name ≠ f.name := by
  have hlt := (List.getElem?_eq_some_iff.1 hi).1
  have h0 : L = L.take i ++ f :: L.drop (i + 1) := by
    conv => lhs; rw [← List.take_append_drop (i + 1) L, List.take_add_one, hi]
    simp
  have hP := h
  unfold SortedF SortedN at hP
  rw [h0, List.map_append, List.map_cons, List.pairwise_append, List.pairwise_cons] at hP
  rw [List.mem_append]
  constructor
  · rintro (hg | hg)
    · refine ⟨List.mem_of_mem_take hg, fun e => ?_⟩
      have := hP.2.2 g.name (List.mem_map.2 ⟨g, hg, rfl⟩) f.name (by simp)
      rw [e, lessN_irrefl] at this
      cases this
    · refine ⟨List.mem_of_mem_drop hg, fun e => ?_⟩
      have := hP.2.1.1 g.name (List.mem_map.2 ⟨g, hg, rfl⟩)
      rw [e, lessN_irrefl] at this
      cases this
  · rintro ⟨hg, hne⟩
    rw [h0, List.mem_append, List.mem_cons] at hg
    rcases hg with hg | rfl | hg
    · exact .inl hg
    · exact absurd rfl hne
    · exact .inr hg
end
theorem usedL_append (a b : List FileD) : usedL (a ++ b) = usedL a + usedL b := by simp [usedL]
theorem usedL_cons (f : FileD) (a : List FileD) : usedL (f :: a) = f.b.size + usedL a := by simp [usedL]
theorem usedL_split {L : List FileD} {i : Nat} {f : FileD} (hi : L[i]? = some f) : usedL L = usedL (L.take i ++ L.drop (i + 1)) + f.b.size := by
  have h0 : L = L.take i ++ f :: L.drop (i + 1) := by
    conv => lhs; rw [← List.take_append_drop (i + 1) L, List.take_add_one, hi]
    simp
  conv => lhs; rw [h0]
  rw [usedL_append, usedL_cons, usedL_append]; omega
theorem usedL_set {L : List FileD} {i : Nat} {f : FileD} (g : FileD) (hi : L[i]? = some f) : usedL (L.set i g) + f.b.size = usedL L + g.b.size := by
  have hlt := (List.getElem?_eq_some_iff.1 hi).1
  have h1 := usedL_split hi
  have h2 := usedL_split (L := L.set i g) (i := i) (f := g) (by rw [List.getElem?_set_self hlt])
  rw [List.take_set_of_le (Nat.le_refl i), List.drop_set_of_lt (by omega)] at h2
  omega
theorem usedL_new {L : List FileD} (i : Nat) (f : FileD) : usedL (L.take i ++ f :: L.drop i) = usedL L + f.b.size := by
  conv => rhs; rw [← List.take_append_drop i L]
  rw [usedL_append, usedL_cons, usedL_append]; omega
theorem onGo_sub : ∀ (L : List FileD) (ks : List Int), List.Sublist ((onGo L ks).map (·.name)) (L.map (·.name)) := by
  intro L
  induction L with
  | nil => intro ks; exact List.Sublist.refl _
  | cons f L ih =>
    intro ks
    rw [onGo, List.map_append, List.map_cons]
    unfold keptL
    split
    · exact (ih ks.tail).cons_cons _
    · exact (ih ks.tail).cons _
theorem onGo_sorted {L : List FileD} (h : SortedF L) (ks : List Int) : SortedF (onGo L ks) := List.Pairwise.sublist (onGo_sub L ks) h
end Go.Proofs.YthmcimpdehgaoaaGreatDoor
namespace Go.Proofs.YthmcimpdehgaoaaGreatDoor
open Go.RowKit

theorem size_le_used {L : List FileD} {f : FileD} (hf : f ∈ L) : f.b.size ≤ usedL L := by
  obtain ⟨i, hi⟩ := List.mem_iff_getElem?.1 hf
  have := usedL_split hi
  omega
section
variable {D : DiskD} (h : SortedF D.files)
include h
theorem at_mem {f : FileD} (hf : f ∈ D.files) : ∃ i, D.at_ f.name = some (i, f) ∧ D.files[i]? = some f := by
  obtain ⟨i, h1, h2⟩ := find_mem h hf
  refine ⟨i, ?_, h2⟩
  unfold DiskD.at_
  rw [h1, if_pos rfl, h2]; rfl
omit h in
theorem at_no {t : ByteArray} (hn : ∀ f ∈ D.files, f.name ≠ t) : D.at_ t = none := by
  unfold DiskD.at_
  rw [find_no hn, if_neg (by simp)]
theorem was_name (t : ByteArray) : (D.was t).name = t ∧ ((∃ f ∈ D.files, f.name = t ∧ D.was t = f) ∨ (∀ f ∈ D.files, f.name ≠ t) ∧ D.was t = ⟨t, ByteArray.empty, -1⟩) := by
  by_cases hx : ∃ f ∈ D.files, f.name = t
  · obtain ⟨f, hf, rfl⟩ := hx
    obtain ⟨i, h1, _⟩ := at_mem h hf
    have : D.was f.name = f := by unfold DiskD.was; rw [h1]
    rw [this]
    exact ⟨rfl, .inl ⟨f, hf, rfl, rfl⟩⟩
  · have hn : ∀ f ∈ D.files, f.name ≠ t := fun f hf e => hx ⟨f, hf, e⟩
    have : D.was t = ⟨t, ByteArray.empty, -1⟩ := by unfold DiskD.was; rw [at_no hn]
    rw [this]
    exact ⟨rfl, .inr ⟨hn, rfl⟩⟩
theorem was_size (t : ByteArray) : (D.was t).b.size ≤ usedL D.files := by
  obtain ⟨_, ⟨f, hf, _, e⟩ | ⟨_, e⟩⟩ := was_name h t
  · rw [e]; exact size_le_used hf
  · rw [e]; exact Nat.zero_le _
theorem put_eq (t b : ByteArray) : D.put t b = { D with files := putF D.files ⟨t, (D.was t).b ++ b, (D.was t).safe⟩ } := by
  unfold DiskD.put putF
  rw [(was_name h t).1]
theorem put_used (t b : ByteArray) : usedL (putF D.files ⟨t, (D.was t).b ++ b, (D.was t).safe⟩) = usedL D.files + b.size := by
  obtain ⟨_, ⟨f, hf, hn, e⟩ | ⟨hn, e⟩⟩ := was_name h t
  · obtain ⟨i, hi, he⟩ := putF_there h (f := ⟨t, (D.was t).b ++ b, (D.was t).safe⟩) hf hn
    have := usedL_set ⟨t, (D.was t).b ++ b, (D.was t).safe⟩ hi
    rw [he]
    rw [e] at this ⊢
    dsimp only at this
    rw [ByteArray.size_append] at this
    omega
  · obtain ⟨i, _, he, _, _⟩ := putF_new h (f := ⟨t, (D.was t).b ++ b, (D.was t).safe⟩) hn
    rw [he, usedL_new, e]
    dsimp only
    rw [ByteArray.size_append]
    show _ + (0 + _) = _
    omega
omit h in
theorem put_len (f : FileD) : (putF D.files f).length ≤ D.files.length + 1 := by
  unfold putF putL
  split
  · rw [List.length_set]; omega
  · rw [List.length_append, List.length_cons, List.length_take, List.length_drop]; omega
end
section
variable {L : List FileD} {q n : Int} (h : SortedF L)
include h
theorem append_ok {t b : ByteArray} (ht : badN t = false) (h1 : usedL L + b.size ≤ 8388608) (h2 : (usedL L : Int) + b.size ≤ q) :
    ∃ f, f.name = t ∧ f.b = ((⟨L, q, n, -1, false⟩ : DiskD).was t).b ++ b ∧ f.safe = ((⟨L, q, n, -1, false⟩ : DiskD).was t).safe ∧
      (⟨L, q, n, -1, false⟩ : DiskD).append t b = (0, ⟨putF L f, q, n + 1, -1, false⟩) ∧ usedL (putF L f) = usedL L + b.size := by
  have h' : SortedF (⟨L, q, n, -1, false⟩ : DiskD).files := h
  have hw := was_size h' t
  refine ⟨⟨t, ((⟨L, q, n, -1, false⟩ : DiskD).was t).b ++ b, ((⟨L, q, n, -1, false⟩ : DiskD).was t).safe⟩, rfl, rfl, rfl, ?_, put_used h' t b⟩
  unfold DiskD.append
  rw [one_asked ht, if_neg (by simp), if_neg (by have : usedL (⟨L, q, n, -1, false⟩ : DiskD).files = usedL L := rfl; omega), if_neg (by show ¬ q < ((usedL L : Nat) : Int) + _; omega), put_eq h']
  simp [DiskD.power]
theorem append_full {t b : ByteArray} (ht : badN t = false) (h1 : usedL L + b.size ≤ 8388608) (h2 : q < (usedL L : Int) + b.size) :
    (⟨L, q, n, -1, false⟩ : DiskD).append t b = (161, ⟨L, q, n, -1, false⟩) := by
  have h' : SortedF (⟨L, q, n, -1, false⟩ : DiskD).files := h
  have hw := was_size h' t
  unfold DiskD.append
  rw [one_asked ht, if_neg (by simp), if_neg (by have : usedL (⟨L, q, n, -1, false⟩ : DiskD).files = usedL L := rfl; omega), if_pos (by show q < ((usedL L : Nat) : Int) + _; omega)]
theorem read_ok {f : FileD} (hf : f ∈ L) (ht : badN f.name = false) : (⟨L, q, n, -1, false⟩ : DiskD).read f.name = (0, f.b) := by
  obtain ⟨i, h1, h2⟩ := find_mem h hf
  unfold DiskD.read
  rw [one_asked ht, if_neg (by simp)]
  show (if (findN (L.map (·.name)) f.name).2 = true then _ else _) = _
  rw [h1, if_pos rfl]
  show ((0 : Int), (L.map (·.b)).getD i ByteArray.empty) = _
  rw [List.getD_eq_getElem?_getD, List.getElem?_map, h2]; rfl
omit h in
theorem read_no {t : ByteArray} (hn : ∀ f ∈ L, f.name ≠ t) (ht : badN t = false) : (⟨L, q, n, -1, false⟩ : DiskD).read t = (5, ByteArray.empty) := by
  unfold DiskD.read
  rw [one_asked ht, if_neg (by simp)]
  show (if (findN (L.map (·.name)) t).2 = true then _ else _) = _
  rw [find_no hn, if_neg (by simp)]
theorem step_ok {f : FileD} (hf : f ∈ L) (ht : badN f.name = false) {dst : ByteArray} (hd : badN dst = false) (kind k : Int) (all : Bool) (m : Nat) (hm : (if all = true then (f.b.size : Int) else k) = m) (hmf : m ≤ f.b.size) :
    ∃ i, L[i]? = some f ∧ (⟨L, q, n, -1, false⟩ : DiskD).step kind f.name dst k all = (0, ⟨doesL kind L i m dst f, q, n + 1, -1, false⟩) := by
  obtain ⟨i, h1, h2⟩ := at_mem (D := ⟨L, q, n, -1, false⟩) h hf
  refine ⟨i, h2, ?_⟩
  have ha : (⟨L, q, n, -1, false⟩ : DiskD).asked [f.name, dst] = 0 := by simp [DiskD.asked, ht, hd]
  unfold DiskD.step
  rw [ha, if_neg (by simp), h1]
  dsimp only
  rw [hm, if_neg (by omega)]
  simp [DiskD.power]
omit h in
theorem step_none {t dst : ByteArray} (hn : ∀ f ∈ L, f.name ≠ t) (ht : badN t = false) (hd : badN dst = false) (kind k : Int) (all : Bool) : (⟨L, q, n, -1, false⟩ : DiskD).step kind t dst k all = (5, ⟨L, q, n, -1, false⟩) := by
  have ha : (⟨L, q, n, -1, false⟩ : DiskD).asked [t, dst] = 0 := by simp [DiskD.asked, ht, hd]
  unfold DiskD.step
  rw [ha, if_neg (by simp), at_no (D := ⟨L, q, n, -1, false⟩) hn]
theorem step_arg {f : FileD} (hf : f ∈ L) (ht : badN f.name = false) (kind k : Int) (hk : k < 0 ∨ (f.b.size : Int) < k) : (⟨L, q, n, -1, false⟩ : DiskD).step kind f.name f.name k false = (2, ⟨L, q, n, -1, false⟩) := by
  obtain ⟨i, h1, h2⟩ := at_mem (D := ⟨L, q, n, -1, false⟩) h hf
  unfold DiskD.step
  rw [one_asked2 ht, if_neg (by simp), h1]
  dsimp only
  rw [if_pos (by simpa using hk)]
/-- Cut, Sync: the file is there with its first bytes, safe -/
theorem does_safe {f : FileD} {i : Nat} (hi : L[i]? = some f) (m : Nat) (dst : ByteArray) {kind : Int} (hk : kind = 0 ∨ kind = 1) :
    doesL kind L i m dst f = putF L ⟨f.name, f.b.extract 0 m, m⟩ ∧ (m ≤ f.b.size → usedL (doesL kind L i m dst f) + f.b.size = usedL L + m) := by
  have hd : doesL kind L i m dst f = L.set i ⟨f.name, f.b.extract 0 m, m⟩ := by
    unfold doesL
    rw [if_neg (by omega), if_neg (by omega)]
  rw [hd]
  constructor
  · unfold putF putL
    rw [findN_at h (i := i) (by rw [List.getElem?_map, hi]; rfl), if_pos rfl]
  · intro hm
    have := usedL_set ⟨f.name, f.b.extract 0 m, m⟩ hi
    dsimp only at this
    rw [ByteArray.size_extract] at this
    omega
end
end Go.Proofs.YthmcimpdehgaoaaGreatDoor
