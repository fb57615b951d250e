/- The two disks in plain words: sorted rows of files; what each call of the program's and of the reference's makes of them is alike. -/
import Derived.Test.YthmcimpdehgaoaaGreatDoorRkF
import Derived.Test.YthmcimpdehgaoaaGreatDoorPk7
namespace Go.Proofs.YthmcimpdehgaoaaGreatDoor
open Go.RowKit

abbrev PF := ByteArray × ByteArray
/-- rows sorted by names -/
def SortedP (l : List PF) : Prop := l.Pairwise fun a b => lessN a.1 b.1 = true
theorem sortedP_ext : ∀ {l m : List PF}, SortedP l → SortedP m → (∀ x, x ∈ l ↔ x ∈ m) → l = m := by
  intro l
  induction l with
  | nil =>
    intro m _ _ h
    cases m with
    | nil => rfl
    | cons y r => exact absurd ((h y).2 (List.mem_cons_self ..)) (by simp)
  | cons x l ih =>
    intro m hl hm h
    cases m with
    | nil => exact absurd ((h x).1 (List.mem_cons_self ..)) (by simp)
    | cons y r =>
      obtain ⟨h1, h2⟩ := List.pairwise_cons.1 hl
      obtain ⟨h3, h4⟩ := List.pairwise_cons.1 hm
      have hxy : x = y := by
        rcases List.mem_cons.1 ((h x).1 (List.mem_cons_self ..)) with e | hx
        · exact e
        · rcases List.mem_cons.1 ((h y).2 (List.mem_cons_self ..)) with e | hy
          · exact e.symm
          · have a := h3 x hx
            have b := h1 y hy
            have := lessN_trans a b
            rw [lessN_irrefl] at this
            cases this
      subst hxy
      rw [ih h2 h4 fun z => ?_]
      constructor
      · intro hz
        rcases List.mem_cons.1 ((h z).1 (List.mem_cons_of_mem _ hz)) with rfl | hz2
        · have := h1 z hz; rw [lessN_irrefl] at this; cases this
        · exact hz2
      · intro hz
        rcases List.mem_cons.1 ((h z).2 (List.mem_cons_of_mem _ hz)) with rfl | hz2
        · have := h3 z hz; rw [lessN_irrefl] at this; cases this
        · exact hz2
theorem woP_sorted {l : List PF} (h : SortedP l) (t : ByteArray) : SortedP (woP l t) := List.Pairwise.sublist List.filter_sublist h
theorem mem_woP (l : List PF) (t : ByteArray) (x : PF) : x ∈ woP l t ↔ x ∈ l ∧ x.1 ≠ t := by
  unfold woP
  rw [List.mem_filter, decide_eq_true_eq]
theorem lsP_split {t : ByteArray} : ∀ {l : List PF}, SortedP l → (∀ x ∈ l, x.1 ≠ t) → (∀ x ∈ l.take (lsP l t), lessN x.1 t = true) ∧ ∀ x ∈ l.drop (lsP l t), lessN t x.1 = true := by
  intro l
  induction l with
  | nil => intro _ _; exact ⟨by simp, by simp⟩
  | cons y r ih =>
    intro hs hn
    obtain ⟨h1, h2⟩ := List.pairwise_cons.1 hs
    rw [lsP]
    split
    · rename_i hl
      obtain ⟨a, b⟩ := ih h2 fun x hx => hn x (List.mem_cons_of_mem _ hx)
      refine ⟨fun x hx => ?_, fun x hx => b x (by simpa using hx)⟩
      rw [List.take_succ_cons] at hx
      rcases List.mem_cons.1 hx with rfl | hx
      · exact hl
      · exact a x hx
    · rename_i hl
      have hty : lessN t y.1 = true := by
        cases h : lessN t y.1 with
        | true => rfl
        | false => exact absurd (lessN_total (by simpa using hl) h) (hn y (List.mem_cons_self ..))
      refine ⟨by simp, fun x hx => ?_⟩
      rw [List.drop_zero] at hx
      rcases List.mem_cons.1 hx with rfl | hx
      · exact hty
      · exact lessN_trans hty (h1 x hx)
theorem wiP_sorted {l : List PF} (h : SortedP l) (t b : ByteArray) : SortedP (wiP l t b) := by
  have hw := woP_sorted h t
  obtain ⟨h1, h2⟩ := lsP_split hw fun x hx => ((mem_woP l t x).1 hx).2
  unfold wiP
  have e : woP l t = (woP l t).take (lsP (woP l t) t) ++ (woP l t).drop (lsP (woP l t) t) := (List.take_append_drop _ _).symm
  have hw2 := hw
  unfold SortedP at hw2
  rw [e] at hw2
  obtain ⟨p1, p2, p3⟩ := List.pairwise_append.1 hw2
  refine List.pairwise_append.2 ⟨p1, List.pairwise_cons.2 ⟨h2, p2⟩, fun x hx y hy => ?_⟩
  rcases List.mem_cons.1 hy with rfl | hy
  · exact h1 x hx
  · exact p3 x hx y hy
theorem mem_wiP (l : List PF) (t b : ByteArray) (x : PF) : x ∈ wiP l t b ↔ x = (t, b) ∨ x ∈ l ∧ x.1 ≠ t := by
  unfold wiP
  rw [List.mem_append, List.mem_cons]
  have : x ∈ woP l t ↔ x ∈ (woP l t).take (lsP (woP l t) t) ∨ x ∈ (woP l t).drop (lsP (woP l t) t) := by
    rw [← List.mem_append, List.take_append_drop]
  rw [← mem_woP, this]
  constructor
  · rintro (h | h | h)
    · exact .inr (.inl h)
    · exact .inl h
    · exact .inr (.inr h)
  · rintro (h | h | h)
    · exact .inr (.inl h)
    · exact .inl h
    · exact .inr (.inr h)
def seenL (L : List FileD) : List PF := L.map fun f => (f.name, f.b)
def safeL (L : List FileD) : List PF := (L.filter fun f => decide (f.safe ≠ -1)).map fun f => (f.name, f.b.extract 0 f.safe.toNat)
theorem seenL_sorted {L : List FileD} (h : SortedF L) : SortedP (seenL L) := by
  unfold SortedF SortedN at h
  unfold SortedP seenL
  rw [List.pairwise_map] at h ⊢
  exact h
theorem safeL_sorted {L : List FileD} (h : SortedF L) : SortedP (safeL L) := by
  unfold SortedF SortedN at h
  unfold SortedP safeL
  rw [List.pairwise_map] at h ⊢
  exact List.Pairwise.sublist List.filter_sublist h
theorem mem_seenL (L : List FileD) (x : PF) : x ∈ seenL L ↔ ∃ f ∈ L, x = (f.name, f.b) := by
  unfold seenL
  rw [List.mem_map]
  exact ⟨fun ⟨f, h1, h2⟩ => ⟨f, h1, h2.symm⟩, fun ⟨f, h1, h2⟩ => ⟨f, h1, h2.symm⟩⟩
theorem mem_safeL (L : List FileD) (x : PF) : x ∈ safeL L ↔ ∃ f ∈ L, f.safe ≠ -1 ∧ x = (f.name, f.b.extract 0 f.safe.toNat) := by
  unfold safeL
  rw [List.mem_map]
  constructor
  · rintro ⟨f, h1, h2⟩
    rw [List.mem_filter, decide_eq_true_eq] at h1
    exact ⟨f, h1.1, h1.2, h2.symm⟩
  · rintro ⟨f, h1, h2, h3⟩
    exact ⟨f, List.mem_filter.2 ⟨h1, decide_eq_true h2⟩, h3.symm⟩
section
variable {L : List FileD} (h : SortedF L)
include h
theorem getP_mem {f : FileD} (hf : f ∈ L) : getP (seenL L) f.name = some f.b := by
  unfold getP
  have hx : (seenL L).find? (fun x => decide (x.1 = f.name)) = some (f.name, f.b) := by
    cases hg : (seenL L).find? (fun x => decide (x.1 = f.name)) with
    | none =>
      have := List.find?_eq_none.1 hg (f.name, f.b) ((mem_seenL L _).2 ⟨f, hf, rfl⟩)
      simp at this
    | some y =>
      have h1 := List.find?_some hg
      obtain ⟨f', hf', rfl⟩ := (mem_seenL L y).1 (List.mem_of_find?_eq_some hg)
      have hn : f'.name = f.name := by simpa using h1
      rw [h.unique hf' hf hn]
  rw [hx]
  rfl
theorem getS_mem {f : FileD} (hf : f ∈ L) : getP (safeL L) f.name = if f.safe = -1 then none else some (f.b.extract 0 f.safe.toNat) := by
  unfold getP
  cases hg : (safeL L).find? (fun x => decide (x.1 = f.name)) with
  | none =>
    split
    · rfl
    · rename_i hs
      have := List.find?_eq_none.1 hg (f.name, f.b.extract 0 f.safe.toNat) ((mem_safeL L _).2 ⟨f, hf, hs, rfl⟩)
      simp at this
  | some y =>
    have h1 := List.find?_some hg
    obtain ⟨f', hf', hs, rfl⟩ := (mem_safeL L y).1 (List.mem_of_find?_eq_some hg)
    have hn : f'.name = f.name := by simpa using h1
    have := h.unique hf' hf hn
    subst this
    rw [if_neg hs]
    rfl
theorem seen_put (g : FileD) : seenL (putF L g) = wiP (seenL L) g.name g.b := by
  refine sortedP_ext (seenL_sorted (putF_sorted h g)) (wiP_sorted (seenL_sorted h) _ _) fun x => ?_
  rw [mem_seenL, mem_wiP, mem_seenL]
  constructor
  · rintro ⟨f, hf, rfl⟩
    rcases (mem_putF h g f).1 hf with rfl | ⟨h1, h2⟩
    · exact .inl rfl
    · exact .inr ⟨⟨f, h1, rfl⟩, h2⟩
  · rintro (rfl | ⟨⟨f, hf, rfl⟩, hn⟩)
    · exact ⟨g, (mem_putF h g g).2 (.inl rfl), rfl⟩
    · exact ⟨f, (mem_putF h g f).2 (.inr ⟨hf, hn⟩), rfl⟩
theorem safe_put {g : FileD} (hg : g.safe ≠ -1) : safeL (putF L g) = wiP (safeL L) g.name (g.b.extract 0 g.safe.toNat) := by
  refine sortedP_ext (safeL_sorted (putF_sorted h g)) (wiP_sorted (safeL_sorted h) _ _) fun x => ?_
  rw [mem_safeL, mem_wiP, mem_safeL]
  constructor
  · rintro ⟨f, hf, hs, rfl⟩
    rcases (mem_putF h g f).1 hf with rfl | ⟨h1, h2⟩
    · exact .inl rfl
    · exact .inr ⟨⟨f, h1, hs, rfl⟩, h2⟩
  · rintro (rfl | ⟨⟨f, hf, hs, rfl⟩, hn⟩)
    · exact ⟨g, (mem_putF h g g).2 (.inl rfl), hg, rfl⟩
    · exact ⟨f, (mem_putF h g f).2 (.inr ⟨hf, hn⟩), hs, rfl⟩
theorem seen_del {i : Nat} {f : FileD} (hi : L[i]? = some f) : seenL (L.take i ++ L.drop (i + 1)) = woP (seenL L) f.name := by
  refine sortedP_ext (seenL_sorted (del_sorted h i)) (woP_sorted (seenL_sorted h) _) fun x => ?_
  rw [mem_seenL, mem_woP, mem_seenL]
  constructor
  · rintro ⟨g, hg, rfl⟩
    obtain ⟨h1, h2⟩ := (mem_del h hi g).1 hg
    exact ⟨⟨g, h1, rfl⟩, h2⟩
  · rintro ⟨⟨g, hg, rfl⟩, hn⟩
    exact ⟨g, (mem_del h hi g).2 ⟨hg, hn⟩, rfl⟩
theorem safe_del {i : Nat} {f : FileD} (hi : L[i]? = some f) : safeL (L.take i ++ L.drop (i + 1)) = woP (safeL L) f.name := by
  refine sortedP_ext (safeL_sorted (del_sorted h i)) (woP_sorted (safeL_sorted h) _) fun x => ?_
  rw [mem_safeL, mem_woP, mem_safeL]
  constructor
  · rintro ⟨g, hg, hs, rfl⟩
    obtain ⟨h1, h2⟩ := (mem_del h hi g).1 hg
    exact ⟨⟨g, h1, hs, rfl⟩, h2⟩
  · rintro ⟨⟨g, hg, hs, rfl⟩, hn⟩
    exact ⟨g, (mem_del h hi g).2 ⟨hg, hn⟩, hs, rfl⟩
/-- what is put behind a file's bytes leaves what is safe -/
theorem safe_more {g f : FileD} (hf : f ∈ L) (hn : g.name = f.name) (hs : g.safe = f.safe) (hb : g.b.extract 0 f.safe.toNat = f.b.extract 0 f.safe.toNat) : safeL (putF L g) = safeL L := by
  refine sortedP_ext (safeL_sorted (putF_sorted h g)) (safeL_sorted h) fun x => ?_
  rw [mem_safeL, mem_safeL]
  constructor
  · rintro ⟨f', hf', hs', rfl⟩
    rcases (mem_putF h g f').1 hf' with rfl | ⟨h1, h2⟩
    · exact ⟨f, hf, by rw [← hs]; exact hs', by rw [hn, hs, hb]⟩
    · exact ⟨f', h1, hs', rfl⟩
  · rintro ⟨f', hf', hs', rfl⟩
    by_cases e : f'.name = g.name
    · have := h.unique hf' hf (e.trans hn)
      subst this
      exact ⟨g, (mem_putF h g g).2 (.inl rfl), by rw [hs]; exact hs', by rw [hn, hs, hb]⟩
    · exact ⟨f', (mem_putF h g f').2 (.inr ⟨hf', e⟩), hs', rfl⟩
theorem safe_new {g : FileD} (hn : ∀ f ∈ L, f.name ≠ g.name) (hs : g.safe = -1) : safeL (putF L g) = safeL L := by
  refine sortedP_ext (safeL_sorted (putF_sorted h g)) (safeL_sorted h) fun x => ?_
  rw [mem_safeL, mem_safeL]
  constructor
  · rintro ⟨f', hf', hs', rfl⟩
    rcases (mem_putF h g f').1 hf' with rfl | ⟨h1, h2⟩
    · exact absurd hs hs'
    · exact ⟨f', h1, hs', rfl⟩
  · rintro ⟨f', hf', hs', rfl⟩
    exact ⟨f', (mem_putF h g f').2 (.inr ⟨hf', hn f' hf'⟩), hs', rfl⟩
end
theorem getP_no {L : List FileD} {t : ByteArray} (hn : ∀ f ∈ L, f.name ≠ t) : getP (seenL L) t = none := by
  unfold getP
  rw [Option.map_eq_none_iff, List.find?_eq_none]
  intro x hx
  obtain ⟨f, hf, rfl⟩ := (mem_seenL L x).1 hx
  simpa using hn f hf
theorem longP_seen (L : List FileD) : longP (seenL L) = usedL L := by
  unfold longP seenL usedL
  rw [List.map_map]
  rfl
/-- the two disks are alike -/
structure Sim (D : DiskD) (R : RDisk) : Prop where
  sorted : SortedF D.files
  ok : ∀ f ∈ D.files, SafeOk f
  files : R.files = seenL D.files
  safe : R.safe = safeL D.files
  quota : R.quota = D.quota
  done : R.done = D.steps
  left : R.left = D.left
  off : R.gone = D.off
  l0 : -1 ≤ D.left
  good : ∀ f ∈ D.files, badN f.name = false
theorem sim_power {D : DiskD} {R : RDisk} (h : Sim D R) (hoff : D.off = false) : Sim D.power.2 R.power.2 ∧ R.power.1 = decide (D.power.1 = 0) ∧ (D.power.1 = 0 ∨ D.power.1 = 160) := by
  have h0 := h.l0
  unfold DiskD.power RDisk.power
  rw [h.left]
  by_cases hz : D.left = 0
  · rw [if_pos hz]
    exact ⟨⟨h.sorted, h.ok, h.files, h.safe, h.quota, by show R.done + 1 = _; rw [h.done], by show max (-1) (D.left - 1) = -1; omega, by show decide (D.left = 0) = true; exact decide_eq_true hz, Int.le_refl _, h.good⟩, by simp [hz], .inr rfl⟩
  · rw [if_neg hz]
    by_cases hp : 0 < D.left
    · rw [if_pos hp]
      exact ⟨⟨h.sorted, h.ok, h.files, h.safe, h.quota, by show R.done + 1 = _; rw [h.done], by show max (-1) (D.left - 1) = D.left - 1; omega, by show decide (D.left = 0) = D.off; rw [decide_eq_false hz, hoff], by show -1 ≤ D.left - 1; omega, h.good⟩, by simp [hz], .inl rfl⟩
    · rw [if_neg hp]
      exact ⟨⟨h.sorted, h.ok, h.files, h.safe, h.quota, by show R.done + 1 = _; rw [h.done], by show max (-1) (D.left - 1) = D.left; omega, by show decide (D.left = 0) = D.off; rw [decide_eq_false hz, hoff], h0, h.good⟩, by simp [hz], .inl rfl⟩
section
variable {D : DiskD} {R : RDisk} (h : Sim D R)
include h
theorem sim_there (t : ByteArray) : (∃ i f, D.at_ t = some (i, f) ∧ D.files[i]? = some f ∧ f.name = t ∧ f ∈ D.files ∧ findN (D.files.map (·.name)) t = (i, true) ∧ getP R.files t = some f.b) ∨
    (D.at_ t = none ∧ (findN (D.files.map (·.name)) t).2 = false ∧ getP R.files t = none ∧ ∀ f ∈ D.files, f.name ≠ t) := by
  by_cases hx : ∃ f ∈ D.files, f.name = t
  · obtain ⟨f, hf, rfl⟩ := hx
    obtain ⟨i, h1, h2⟩ := at_mem h.sorted hf
    obtain ⟨h3, _⟩ := DiskD.at_some h1
    exact .inl ⟨i, f, h1, h2, rfl, hf, h3, by rw [h.files]; exact getP_mem h.sorted hf⟩
  · have hn : ∀ f ∈ D.files, f.name ≠ t := fun f hf e => hx ⟨f, hf, e⟩
    exact .inr ⟨at_no hn, find_no hn, by rw [h.files]; exact getP_no hn, hn⟩
omit h in
theorem asked1 (t : ByteArray) : D.asked [t] = if D.off = true then 160 else if badN t = true then 2 else 0 := by
  unfold DiskD.asked; simp
omit h in
theorem asked2 (t u : ByteArray) : D.asked [t, u] = if D.off = true then 160 else if badN t = true then 2 else if badN u = true then 2 else 0 := by
  unfold DiskD.asked
  cases ht : badN t <;> cases hu : badN u <;> simp [ht, hu]
theorem sim_read (t : ByteArray) : D.read t = R.read t := by
  unfold DiskD.read RDisk.read RDisk.refused RDisk.got
  rw [h.off, asked1]
  rcases sim_there h t with ⟨i, f, _, h2, _, _, h5, h6⟩ | ⟨_, h2, h3, _⟩
  · rw [h5, h6, List.getD_eq_getElem?_getD, List.getElem?_map, h2]
    cases D.off <;> cases badN t <;> simp
  · rw [h2, h3]
    cases D.off <;> cases badN t <;> simp
theorem sim_remove (t : ByteArray) : (D.step 3 t t 0 true).1 = (R.remove t).1 ∧ Sim (D.step 3 t t 0 true).2 (R.remove t).2 := by
  unfold DiskD.step RDisk.remove RDisk.refused
  rw [asked2, h.off]
  cases hoff : D.off with
  | true => simp; exact h
  | false =>
    cases hb : badN t with
    | true => simp; exact h
    | false =>
      rcases sim_there h t with ⟨i, f, h1, h2, h3, _, h5, h6⟩ | ⟨h1, _, h3, _⟩
      · rw [h1, h6]
        obtain ⟨hs, hp, hp2⟩ := sim_power h hoff
        simp only [Bool.false_eq_true, if_false, ne_eq, not_true_eq_false, if_true, Option.isSome_some]
        rw [if_neg (by omega), hp]
        rcases hp2 with hp2 | hp2
        · rw [hp2]
          simp only [decide_true, if_true]
          refine ⟨trivial, ?_⟩
          have hd : doesL 3 D.files i ((f.b.size : Int)).toNat t f = D.files.take i ++ D.files.drop (i + 1) := by unfold doesL; rw [if_pos rfl]
          rw [hd]
          have hf3 : f.name = t := h3
          refine ⟨del_sorted h.sorted i, fun g hg => ?_, ?_, ?_, hs.quota, hs.done, hs.left, hs.off, hs.l0, fun g hg => h.good g ((mem_del h.sorted h2 g).1 hg).1⟩
          · exact h.ok g ((mem_del h.sorted h2 g).1 hg).1
          · show woP R.files t = _
            rw [h.files, seen_del h.sorted h2, hf3]
          · show woP R.safe t = _
            rw [h.safe, safe_del h.sorted h2, hf3]
        · rw [hp2]
          simp only [show ¬ (160 : Int) = 0 by decide, decide_false, if_false, Bool.false_eq_true]
          exact ⟨trivial, hs⟩
      · rw [h1, h3]
        simp
        exact h
/-- a file is written, safe, with these bytes -/
theorem sim_both {g : FileD} (hs : g.safe = g.b.size) (hgd : badN g.name = false) {D1 : DiskD} {R1 : RDisk} (hp : Sim D1 R1) :
    Sim { D1 with files := putF D.files g } { R1 with files := wiP R.files g.name g.b, safe := wiP R.safe g.name g.b } := by
  have hx : g.b.extract 0 g.b.size = g.b := by apply ByteArray.ext; simp
  refine ⟨putF_sorted h.sorted g, fun f hf => ?_, ?_, ?_, hp.quota, hp.done, hp.left, hp.off, hp.l0, fun f hf => ?_⟩
  · rcases (mem_putF h.sorted g f).1 hf with rfl | ⟨h1, _⟩
    · exact ⟨by rw [hs]; omega, by rw [hs]; exact Int.le_refl _⟩
    · exact h.ok f h1
  · show wiP R.files g.name g.b = _
    rw [h.files, seen_put h.sorted]
  · show wiP R.safe g.name g.b = _
    rw [h.safe, safe_put h.sorted (by rw [hs]; omega), hs, Int.toNat_natCast, hx]
  · rcases (mem_putF h.sorted g f).1 hf with rfl | ⟨h1, _⟩
    · exact hgd
    · exact h.good f h1
theorem sim_sync (t : ByteArray) : (D.step 0 t t 0 true).1 = (R.sync t).1 ∧ Sim (D.step 0 t t 0 true).2 (R.sync t).2 := by
  unfold DiskD.step RDisk.sync RDisk.refused RDisk.both RDisk.got
  rw [asked2, h.off]
  cases hoff : D.off with
  | true => simp; exact h
  | false =>
    cases hb : badN t with
    | true => simp; exact h
    | false =>
      rcases sim_there h t with ⟨i, f, h1, h2, h3, h4, h5, h6⟩ | ⟨h1, _, h3, _⟩
      · rw [h1, h6]
        obtain ⟨hs, hp, hp2⟩ := sim_power h hoff
        simp only [Bool.false_eq_true, if_false, ne_eq, not_true_eq_false, if_true, Option.isSome_some, Option.getD_some]
        rw [if_neg (by omega), hp]
        rcases hp2 with hp2 | hp2
        · rw [hp2]
          simp only [decide_true, if_true]
          refine ⟨trivial, ?_⟩
          have hx : f.b.extract 0 f.b.size = f.b := by apply ByteArray.ext; simp
          have hd := (does_safe h.sorted h2 f.b.size t (.inl (rfl : (0 : Int) = 0))).1
          rw [hx] at hd
          rw [Int.toNat_natCast, hd]
          have := sim_both h (g := ⟨f.name, f.b, f.b.size⟩) rfl (h.good f h4) hs
          rw [← h3]
          exact this
        · rw [hp2]
          simp only [show ¬ (160 : Int) = 0 by decide, decide_false, if_false, Bool.false_eq_true]
          exact ⟨trivial, hs⟩
      · rw [h1, h3]
        simp
        exact h
theorem sim_rename (src dst : ByteArray) : (D.step 2 src dst 0 true).1 = (R.rename src dst).1 ∧ Sim (D.step 2 src dst 0 true).2 (R.rename src dst).2 := by
  unfold DiskD.step RDisk.rename RDisk.remove RDisk.refused RDisk.got
  rw [asked2, h.off]
  cases hoff : D.off with
  | true => simp; exact h
  | false =>
    cases hb : badN src with
    | true => simp; exact h
    | false =>
      cases hb2 : badN dst with
      | true => simp; exact h
      | false =>
      rcases sim_there h src with ⟨i, f, h1, h2, h3, h4, h5, h6⟩ | ⟨h1, _, h3, _⟩
      · rw [h1, h6]
        obtain ⟨hs, hp, hp2⟩ := sim_power h hoff
        simp only [Bool.false_eq_true, if_false, ne_eq, not_true_eq_false, if_true, Option.isSome_some, Option.getD_some]
        rw [if_neg (by omega), hp]
        rcases hp2 with hp2 | hp2
        · rw [hp2]
          simp only [decide_true, if_true]
          refine ⟨trivial, ?_⟩
          have hd : doesL 2 D.files i ((f.b.size : Int)).toNat dst f = putF (D.files.take i ++ D.files.drop (i + 1)) ⟨dst, f.b, f.b.size⟩ := by
            unfold doesL putF
            rw [if_neg (by decide), if_pos rfl, Int.toNat_natCast]
          rw [hd]
          have hsd := del_sorted h.sorted i
          have hx : f.b.extract 0 f.b.size = f.b := by apply ByteArray.ext; simp
          have hf3 : f.name = src := h3
          refine ⟨putF_sorted hsd _, fun g hg => ?_, ?_, ?_, hs.quota, hs.done, hs.left, hs.off, hs.l0, fun g hg => ?_⟩
          · rcases (mem_putF hsd _ g).1 hg with rfl | ⟨hg, _⟩
            · exact ⟨by show (-1 : Int) ≤ (f.b.size : Int); omega, Int.le_refl _⟩
            · exact h.ok g ((mem_del h.sorted h2 g).1 hg).1
          · show wiP (woP R.files src) dst f.b = _
            rw [h.files, seen_put hsd, seen_del h.sorted h2, hf3]
          · show wiP (woP R.safe src) dst f.b = _
            rw [h.safe, safe_put hsd (by show (f.b.size : Int) ≠ -1; omega), safe_del h.sorted h2, hf3, Int.toNat_natCast, hx]
          · rcases (mem_putF hsd _ g).1 hg with rfl | ⟨hg, _⟩
            · exact hb2
            · exact h.good g ((mem_del h.sorted h2 g).1 hg).1
        · rw [hp2]
          simp only [show ¬ (160 : Int) = 0 by decide, decide_false, if_false, Bool.false_eq_true]
          exact ⟨trivial, hs⟩
      · rw [h1, h3]
        simp
        exact h
theorem sim_fail (z : Int) : Sim { D with left := max (-1) z } { R with left := max (-1) z } := ⟨h.sorted, h.ok, h.files, h.safe, h.quota, h.done, rfl, h.off, by show -1 ≤ max (-1) z; omega, h.good⟩
theorem sim_crash : Sim { D with off := true, left := -1 } { R with gone := true, left := -1 } := ⟨h.sorted, h.ok, h.files, h.safe, h.quota, h.done, rfl, rfl, Int.le_refl _, h.good⟩
theorem sim_append (t b : ByteArray) : (D.append t b).1 = (R.append t b).1 ∧ Sim (D.append t b).2 (R.append t b).2 := by
  have hgot : (D.was t).b = R.got t ∧ (D.was t).name = t := by
    unfold DiskD.was RDisk.got
    rcases sim_there h t with ⟨i, f, h1, h2, h3, h4, h5, h6⟩ | ⟨h1, _, h3, _⟩
    · rw [h1, h6]; exact ⟨rfl, h3⟩
    · rw [h1, h3]; exact ⟨rfl, rfl⟩
  unfold DiskD.append RDisk.append RDisk.refused
  rw [asked1, h.off, hgot.1, h.files, longP_seen, h.quota]
  unfold DiskD.used
  cases hoff : D.off with
  | true => simp; exact h
  | false =>
    cases hb : badN t with
    | true => simp; exact h
    | false =>
      simp only [Bool.false_eq_true, if_false, ne_eq, not_true_eq_false]
      by_cases h8 : 8388608 < (R.got t).size + b.size
      · rw [if_pos (by omega), if_pos h8]; exact ⟨rfl, h⟩
      · rw [if_neg (by omega), if_neg h8]
        by_cases hq : D.quota < (usedL D.files : Int) + (b.size : Int)
        · rw [if_pos hq, if_pos hq]; exact ⟨rfl, h⟩
        · rw [if_neg hq, if_neg hq]
          have hput : Sim (D.put t b) { R with files := wiP (seenL D.files) t (R.got t ++ b) } := by
            rw [put_eq h.sorted]
            refine ⟨putF_sorted h.sorted _, fun g hg => ?_, ?_, ?_, h.quota, h.done, h.left, h.off, h.l0, fun g hg => ?_⟩
            · rcases (mem_putF h.sorted _ g).1 hg with rfl | ⟨hg, _⟩
              · show -1 ≤ (D.was t).safe ∧ (D.was t).safe ≤ (((D.was t).b ++ b).size : Int)
                rw [ByteArray.size_append]
                unfold DiskD.was
                rcases sim_there h t with ⟨i, f, h1, h2, h3, h4, h5, h6⟩ | ⟨h1, _, h3, _⟩
                · rw [h1]
                  obtain ⟨o1, o2⟩ := h.ok f h4
                  exact ⟨o1, by show f.safe ≤ ((f.b.size + b.size : Nat) : Int); omega⟩
                · rw [h1]
                  exact ⟨Int.le_refl _, by show (-1 : Int) ≤ _; omega⟩
              · exact h.ok g hg
            · show wiP (seenL D.files) t (R.got t ++ b) = _
              rw [seen_put h.sorted, hgot.1]
            · show R.safe = _
              rw [h.safe]
              rcases sim_there h t with ⟨i, f, h1, h2, h3, h4, h5, h6⟩ | ⟨h1, _, h3, hn⟩
              · have hw : D.was t = f := by unfold DiskD.was; rw [h1]
                refine (safe_more h.sorted h4 h3.symm (by rw [hw]) ?_).symm
                rw [hw]
                obtain ⟨o1, o2⟩ := h.ok f h4
                show (f.b ++ b).extract 0 f.safe.toNat = _
                exact ext_left (by omega)
              · have hw : D.was t = ⟨t, ByteArray.empty, -1⟩ := by unfold DiskD.was; rw [h1]
                refine (safe_new h.sorted hn ?_).symm
                rw [hw]
            · rcases (mem_putF h.sorted _ g).1 hg with rfl | ⟨hg, _⟩
              · exact hb
              · exact h.good g hg
          obtain ⟨hs, hp, hp2⟩ := sim_power hput (D := D.put t b) (by show D.off = false; exact hoff)
          have hpw : ({ R with files := wiP (seenL D.files) t (R.got t ++ b) } : RDisk).power.1 = R.power.1 := rfl
          rw [hpw] at hp
          rw [hp]
          refine ⟨?_, hs⟩
          rcases hp2 with hp2 | hp2
          · rw [hp2]; rfl
          · rw [hp2]; rfl
omit h in
theorem on_one {f : FileD} (hf : SafeOk f) {S : List PF} (hS : getP S f.name = if f.safe = -1 then none else some (f.b.extract 0 f.safe.toNat)) (k : Option Int) :
    seenL (keptL f k) = rkeepL S (f.name, f.b) k ∧ safeL (keptL f k) = rkeepL S (f.name, f.b) k ∧ ∀ g ∈ keptL f k, SafeOk g := by
  obtain ⟨o1, o2⟩ := hf
  have hsz : ((getP S f.name).getD ByteArray.empty).size = f.safe.toNat := by
    rw [hS]
    split
    · rename_i e; rw [e]; rfl
    · show (f.b.extract 0 f.safe.toNat).size = _
      rw [ByteArray.size_extract]; omega
  have hk : rkeepN ((getP S f.name).getD ByteArray.empty).size f.b k = keptN f k := by
    rw [hsz]
    unfold rkeepN keptN
    cases k <;> rfl
  have hle := keptN_le f ⟨o1, o2⟩ k
  have hx : (f.b.extract 0 (keptN f k)).extract 0 (keptN f k) = f.b.extract 0 (keptN f k) := by
    rw [ByteArray.extract_extract]
    congr 1
    all_goals omega
  have hc : ((getP S f.name).isSome = true ∨ 0 < keptN f k) ↔ (0 < keptN f k ∨ f.safe ≠ -1) := by
    rw [hS]
    by_cases e : f.safe = -1
    · rw [if_pos e]; simp [e]
    · rw [if_neg e]; simp [e]
  unfold keptL rkeepL
  dsimp only
  rw [hk]
  by_cases hc2 : 0 < keptN f k ∨ f.safe ≠ -1
  · rw [if_pos hc2, if_pos (hc.2 hc2)]
    refine ⟨rfl, ?_, fun g hg => ?_⟩
    · unfold safeL
      simp only [List.filter_cons, List.filter_nil]
      rw [if_pos (decide_eq_true (by omega))]
      simp only [List.map_cons, List.map_nil, Int.toNat_natCast]
      rw [hx]
    · rw [List.mem_singleton.1 hg]
      refine ⟨by show (-1 : Int) ≤ (keptN f k : Int); omega, ?_⟩
      show (keptN f k : Int) ≤ ((f.b.extract 0 (keptN f k)).size : Int)
      rw [ByteArray.size_extract]; omega
  · rw [if_neg hc2, if_neg (fun e => hc2 (hc.1 e))]
    exact ⟨rfl, rfl, fun g hg => by cases hg⟩
omit h in
theorem on_rows {S : List PF} : ∀ (L : List FileD) (ks : List Int), (∀ f ∈ L, SafeOk f ∧ getP S f.name = if f.safe = -1 then none else some (f.b.extract 0 f.safe.toNat)) →
    seenL (onGo L ks) = ronGo S (seenL L) ks ∧ safeL (onGo L ks) = ronGo S (seenL L) ks ∧ ∀ g ∈ onGo L ks, SafeOk g := by
  intro L
  induction L with
  | nil => intro ks _; exact ⟨rfl, rfl, fun g hg => by cases hg⟩
  | cons f L ih =>
    intro ks hL
    obtain ⟨a1, a2, a3⟩ := ih ks.tail fun g hg => hL g (List.mem_cons_of_mem _ hg)
    obtain ⟨h1, h2⟩ := hL f (List.mem_cons_self ..)
    obtain ⟨b1, b2, b3⟩ := on_one h1 h2 ks.head?
    rw [onGo]
    have e : ronGo S (seenL (f :: L)) ks = rkeepL S (f.name, f.b) ks.head? ++ ronGo S (seenL L) ks.tail := rfl
    rw [e]
    refine ⟨?_, ?_, fun g hg => ?_⟩
    · rw [← a1, ← b1]; unfold seenL; rw [List.map_append]
    · rw [← a2, ← b2]; unfold safeL; rw [List.filter_append, List.map_append]
    · rcases List.mem_append.1 hg with hg | hg
      · exact b3 g hg
      · exact a3 g hg
theorem sim_on (ks : List Int) : Sim (D.on ks) (R.on ks) := by
  unfold DiskD.on RDisk.on
  rw [h.off]
  cases hoff : D.off with
  | false =>
    simp only [Bool.false_eq_true, if_false]
    exact ⟨h.sorted, h.ok, h.files, h.safe, h.quota, h.done, rfl, rfl, Int.le_refl _, h.good⟩
  | true =>
    simp only [if_true]
    obtain ⟨a1, a2, a3⟩ := on_rows (S := R.safe) D.files ks fun f hf => ⟨h.ok f hf, by rw [h.safe]; exact getS_mem h.sorted hf⟩
    refine ⟨onGo_sorted h.sorted ks, a3, ?_, ?_, h.quota, h.done, rfl, rfl, Int.le_refl _, fun g hg => ?_⟩
    · show ronGo R.safe R.files ks = _
      rw [h.files, a1]
    · show ronGo R.safe R.files ks = _
      rw [h.files, a2]
    · have hm := (onGo_sub D.files ks).subset (List.mem_map_of_mem hg)
      obtain ⟨f, hf, he⟩ := List.mem_map.1 hm
      rw [← he]
      exact h.good f hf
theorem sim_safeR : SafeR R := by
  intro x hx
  rw [h.files] at hx
  obtain ⟨f, hf, rfl⟩ := (mem_seenL _ x).1 hx
  obtain ⟨o1, o2⟩ := h.ok f hf
  show ((getP R.safe f.name).getD ByteArray.empty).size ≤ f.b.size
  rw [h.safe, getS_mem h.sorted hf]
  split
  · exact Nat.zero_le _
  · show (f.b.extract 0 f.safe.toNat).size ≤ _
    rw [ByteArray.size_extract]; omega
end
end Go.Proofs.YthmcimpdehgaoaaGreatDoor
