/- A store of manifests over a disk that may be armed: what Write and Open leave, in plain words. -/
import Derived.Test.YtlcgkcafelpglaaGreatDoorMaS
namespace Go.Proofs.YtlcgkcafelpglaaGreatDoor
open Go.RowKit

def keptF (S : StD) : List FileD := if S.some = true then [fileM S.m] else []
/-- a store that may be -/
def StOk (S : StD) : Prop := (S.some = true → Good S.m) ∧ (S.some = false → S = ⟨zeroM, false⟩)
/-- others' files -/
def Oth (X : List FileD) : Prop := ∀ f ∈ X, prefN f.name = false
/-- what an earlier write left -/
def TOk (T : List FileD) : Prop := T = [] ∨ ∃ b s, T = [⟨tmpN, b, s⟩] ∧ b.size ≤ 50 ∧ -1 ≤ s ∧ s ≤ b.size
theorem StOk.nn {S : StD} (h : StOk S) : 0 ≤ S.m.n ∧ S.m.n ≤ 4611686018427387904 := by
  cases hs : S.some with
  | true =>
    have hg := h.1 hs
    have h2 := hg.2
    have hp := hg.pos
    unfold ManM.may at h2
    simp only [Bool.and_eq_true, decide_eq_true_eq] at h2
    omega
  | false => rw [h.2 hs]; exact ⟨by decide, by decide⟩
theorem next_good {S : StD} {m : ManM} (h : StOk S) (hm : m.Ok) (hy : (nextM S m).may = true) : Good (nextM S m) := by
  have := h.nn
  exact ⟨⟨⟨by show _ ≤ S.m.n + 1; omega, by show S.m.n + 1 ≤ _; omega⟩, hm.epoch, hm.step, hm.sum, hm.most, hm.job⟩, hy⟩
theorem kept_mem {S : StD} {f : FileD} : f ∈ keptF S ↔ S.some = true ∧ f = fileM S.m := by
  unfold keptF
  split
  · rename_i h; simp [h]
  · rename_i h; simp [h]
theorem kept_eq {S : StD} (h : S.some = true) : keptF S = [fileM S.m] := by unfold keptF; rw [if_pos h]
theorem kept_no {S : StD} (h : S.some = false) : keptF S = [] := by unfold keptF; rw [if_neg (by simp [h])]
/-- what follows the removal of what an earlier write left -/
def tailD (D1 : DiskD) (S : StD) (m : ManM) : Int × DiskD × StD :=
  if (D1.append tmpN (nextM S m).bytes).1 ≠ 0 then outD (D1.append tmpN (nextM S m).bytes).1 (D1.append tmpN (nextM S m).bytes).2 S
  else if (((D1.append tmpN (nextM S m).bytes).2).step 0 tmpN tmpN 0 true).1 ≠ 0 then outD (((D1.append tmpN (nextM S m).bytes).2).step 0 tmpN tmpN 0 true).1 (((D1.append tmpN (nextM S m).bytes).2).step 0 tmpN tmpN 0 true).2 S
  else if ((((D1.append tmpN (nextM S m).bytes).2).step 0 tmpN tmpN 0 true).2.step 2 tmpN (nameM (nextM S m).n) 0 true).1 ≠ 0 then
    outD ((((D1.append tmpN (nextM S m).bytes).2).step 0 tmpN tmpN 0 true).2.step 2 tmpN (nameM (nextM S m).n) 0 true).1 ((((D1.append tmpN (nextM S m).bytes).2).step 0 tmpN tmpN 0 true).2.step 2 tmpN (nameM (nextM S m).n) 0 true).2 S
  else if S.some = true then
    (((((D1.append tmpN (nextM S m).bytes).2).step 0 tmpN tmpN 0 true).2.step 2 tmpN (nameM (nextM S m).n) 0 true).2.step 3 (nameM S.m.n) (nameM S.m.n) 0 true |>.1,
      ((((D1.append tmpN (nextM S m).bytes).2).step 0 tmpN tmpN 0 true).2.step 2 tmpN (nameM (nextM S m).n) 0 true).2.step 3 (nameM S.m.n) (nameM S.m.n) 0 true |>.2, ⟨nextM S m, true⟩)
  else (0, ((((D1.append tmpN (nextM S m).bytes).2).step 0 tmpN tmpN 0 true).2.step 2 tmpN (nameM (nextM S m).n) 0 true).2, ⟨nextM S m, true⟩)
theorem write_tail (D : DiskD) (S : StD) (m : ManM) : writeD D S m = if (nextM S m).may = false then (2, D, S) else if (clearD D).1 ≠ 0 then outD (clearD D).1 (clearD D).2 S else tailD (clearD D).2 S m := rfl
/-- what Write leaves -/
def WriteR (k : Int) (X : List FileD) (q n l : Int) (S : StD) (m' : ManM) (r : Int × DiskD × StD) : Prop :=
  ∃ (L' : List FileD) (n' l' : Int), n ≤ n' ∧ n' ≤ n + 4 + k ∧ -1 ≤ l' ∧ l' ≤ max l (-1) ∧
    ((r = (0, ⟨L', q, n', l', false⟩, ⟨m', true⟩) ∧ Has L' (fileM m' :: X) ∧ (l = -1 → l' = -1)) ∨
     (l ≠ -1 ∧ ((∃ T, TOk T ∧ r = (160, ⟨L', q, n', -1, true⟩, S) ∧ Has L' (T ++ (keptF S ++ X))) ∨
       (S.some = true ∧ r = (160, ⟨L', q, n', -1, true⟩, ⟨m', true⟩) ∧ Has L' (fileM m' :: fileM S.m :: X)))))
theorem lessL_le (l : Int) (h : -1 ≤ l) : -1 ≤ lessL l ∧ lessL l ≤ max l (-1) ∧ (l = -1 → lessL l = -1) ∧ (l ≠ 0 → lessL l ≠ -1 → l ≠ -1) := by
  unfold lessL
  refine ⟨?_, ?_, ?_, ?_⟩
  · split <;> omega
  · split <;> omega
  · intro h; rw [h]; rfl
  · intro h1 h2 h3; rw [h3] at h2; exact h2 rfl
section
variable {X L : List FileD} {q n l : Int} {S : StD} {m : ManM} (hX : Oth X) (hS : StOk S) (hm : m.Ok) (hy : (nextM S m).may = true)
include hX hS hm hy
theorem tail_has (hl : -1 ≤ l) (h : Has L (keptF S ++ X)) (hq : (usedL L : Int) + 50 ≤ q) : WriteR 0 X q n l S (nextM S m) (tailD ⟨L, q, n, l, false⟩ S m) := by
  have hg := next_good hS hm hy
  have hnb : badN (nameM (nextM S m).n) = false := nameM_bad hg.1.n
  have hb50 : (nextM S m).bytes.size = 50 := (nextM S m).bytes_size
  have hnt : ∀ g ∈ keptF S ++ X, g.name ≠ tmpN := by
    intro g hg2 e
    rcases List.mem_append.1 hg2 with hg2 | hg2
    · obtain ⟨hs, rfl⟩ := kept_mem.1 hg2
      exact nameM_tmp (by have := (hS.1 hs).pos; omega) e
    · have := hX g hg2
      rw [e, pref_tmp] at this
      cases this
  have hnd : ∀ g ∈ keptF S ++ X, g.name ≠ nameM (nextM S m).n := by
    intro g hg2 e
    rcases List.mem_append.1 hg2 with hg2 | hg2
    · obtain ⟨hs, rfl⟩ := kept_mem.1 hg2
      have := nameM_inj (by have := (hS.1 hs).pos; omega) (by have := hg.pos; omega) e
      have h2 : (nextM S m).n = S.m.n + 1 := rfl
      omega
    · have := hX g hg2
      rw [e, pref_name] at this
      cases this
  obtain ⟨l1a, l1b, l1c, l1d⟩ := lessL_le l hl
  obtain ⟨L2, h2, e2⟩ := append_has (l := l) (q := q) (n := n) h tmp_bad hnt (b := (nextM S m).bytes) (by omega) (by omega)
  unfold tailD
  rw [e2]
  by_cases c0 : l = 0
  · rw [if_pos c0]
    refine ⟨L2, n + 1, -1, by omega, by omega, by omega, by omega, .inr ⟨by omega, .inl ⟨[⟨tmpN, (nextM S m).bytes, -1⟩], .inr ⟨_, _, rfl, by omega, by omega, by omega⟩, ?_, h2⟩⟩⟩
    rw [if_pos (by show (160 : Int) ≠ 0; decide)]; rfl
  rw [if_neg c0, if_neg (by simp)]
  dsimp only
  obtain ⟨L3, h3, e3⟩ := sync_has (l := lessL l) (q := q) (n := n + 1) h2 tmp_bad
  have e3' : (⟨L2, q, n + 1, lessL l, false⟩ : DiskD).step 0 tmpN tmpN 0 true = _ := e3
  rw [e3']
  obtain ⟨l2a, l2b, l2c, l2d⟩ := lessL_le (lessL l) l1a
  by_cases c1 : lessL l = 0
  · rw [if_pos c1]
    refine ⟨L2, n + 1 + 1, -1, by omega, by omega, by omega, by omega, .inr ⟨by omega, .inl ⟨[⟨tmpN, (nextM S m).bytes, -1⟩], .inr ⟨_, _, rfl, by omega, by omega, by omega⟩, ?_, h2⟩⟩⟩
    rw [if_pos (by show (160 : Int) ≠ 0; decide)]; rfl
  rw [if_neg c1, if_neg (by simp)]
  dsimp only
  dsimp only at h3
  obtain ⟨L4, h4, e4⟩ := rename_has (l := lessL (lessL l)) (q := q) (n := n + 1 + 1) h3 tmp_bad hnb hnd
  have e4' : (⟨L3, q, n + 1 + 1, lessL (lessL l), false⟩ : DiskD).step 2 tmpN (nameM (nextM S m).n) 0 true = _ := e4
  rw [e4']
  obtain ⟨l3a, l3b, l3c, l3d⟩ := lessL_le (lessL (lessL l)) l2a
  have l4a := lessL_le (lessL (lessL (lessL l))) l3a
  by_cases c2 : lessL (lessL l) = 0
  · rw [if_pos c2]
    refine ⟨L3, n + 1 + 1 + 1, -1, by omega, by omega, by omega, by omega, .inr ⟨by omega, .inl ⟨[⟨tmpN, (nextM S m).bytes, (nextM S m).bytes.size⟩], .inr ⟨_, _, rfl, by omega, by omega, by omega⟩, ?_, h3⟩⟩⟩
    rw [if_pos (by show (160 : Int) ≠ 0; decide)]; rfl
  rw [if_neg c2, if_neg (by simp)]
  dsimp only
  dsimp only at h4
  have hf : (⟨nameM (nextM S m).n, (nextM S m).bytes, ((nextM S m).bytes.size : Int)⟩ : FileD) = fileM (nextM S m) := by unfold fileM; rw [hb50]; rfl
  rw [hf] at h4
  cases hs : S.some with
  | false =>
    rw [if_neg (by simp)]
    rw [kept_no hs, List.nil_append] at h4
    exact ⟨L4, n + 1 + 1 + 1, _, by omega, by omega, l3a, by omega, .inl ⟨rfl, h4, fun e => l3c (l2c (l1c e))⟩⟩
  | true =>
    rw [if_pos rfl]
    rw [kept_eq hs] at h4
    have h5 : Has L4 (fileM S.m :: fileM (nextM S m) :: X) := h4.perm_ (List.Perm.swap _ _ _)
    obtain ⟨L5, h6, e5⟩ := remove_has (l := lessL (lessL (lessL l))) (q := q) (n := n + 1 + 1 + 1) h5 (fileM_bad (hS.1 hs).1)
    have e5' : (⟨L4, q, n + 1 + 1 + 1, lessL (lessL (lessL l)), false⟩ : DiskD).step 3 (nameM S.m.n) (nameM S.m.n) 0 true = _ := e5
    rw [e5']
    by_cases c3 : lessL (lessL (lessL l)) = 0
    · rw [if_pos c3]
      exact ⟨L4, n + 1 + 1 + 1 + 1, -1, by omega, by omega, by omega, by omega, .inr ⟨by omega, .inr ⟨hs, rfl, h4⟩⟩⟩
    · rw [if_neg c3]
      refine ⟨L5, n + 1 + 1 + 1 + 1, _, by omega, by omega, l4a.1, by omega, .inl ⟨rfl, h6, fun e => l4a.2.2.1 (l3c (l2c (l1c e)))⟩⟩
/-- WRITE -/
theorem write_has {T : List FileD} (hT : TOk T) (hl : -1 ≤ l) (h : Has L (T ++ (keptF S ++ X))) (hq : (usedL L : Int) + 50 ≤ q) : WriteR 1 X q n l S (nextM S m) (writeD ⟨L, q, n, l, false⟩ S m) := by
  rw [write_tail, if_neg (by simp [hy])]
  have hnt : ∀ g ∈ keptF S ++ X, g.name ≠ tmpN := by
    intro g hg2 e
    rcases List.mem_append.1 hg2 with hg2 | hg2
    · obtain ⟨hs, rfl⟩ := kept_mem.1 hg2
      exact nameM_tmp (by have := (hS.1 hs).pos; omega) e
    · have := hX g hg2
      rw [e, pref_tmp] at this
      cases this
  rcases hT with rfl | ⟨b, s, rfl, hb1, hb2, hb3⟩
  · rw [List.nil_append] at h
    have hc : clearD ⟨L, q, n, l, false⟩ = (0, ⟨L, q, n, l, false⟩) := by
      unfold clearD
      rw [read_hasnt h hnt tmp_bad, if_pos (by show (5 : Int) ≠ 0; decide)]
    rw [hc, if_neg (by simp)]
    obtain ⟨L', n', l', a1, a2, a3⟩ := tail_has hX hS hm hy (n := n) hl h hq
    exact ⟨L', n', l', a1, by omega, a3⟩
  · have h' : Has L (⟨tmpN, b, s⟩ :: (keptF S ++ X)) := h
    obtain ⟨l1a, l1b, l1c, l1d⟩ := lessL_le l hl
    obtain ⟨L2, h2, e2⟩ := remove_has (l := l) (q := q) (n := n) h' tmp_bad
    have hr : (⟨L, q, n, l, false⟩ : DiskD).read tmpN = (0, b) := read_has h' (List.mem_cons_self ..) tmp_bad
    have hc : clearD ⟨L, q, n, l, false⟩ = if l = 0 then (160, ⟨L, q, n + 1, -1, true⟩) else (0, ⟨L2, q, n + 1, lessL l, false⟩) := by
      unfold clearD
      rw [hr, if_neg (by simp)]
      exact e2
    rw [hc]
    by_cases c0 : l = 0
    · rw [if_pos c0]
      refine ⟨L, n + 1, -1, by omega, by omega, by omega, by omega, .inr ⟨by omega, .inl ⟨[⟨tmpN, b, s⟩], .inr ⟨b, s, rfl, hb1, hb2, hb3⟩, ?_, h⟩⟩⟩
      rw [if_pos (by show (160 : Int) ≠ 0; decide)]; rfl
    · rw [if_neg c0, if_neg (by simp)]
      have hu : usedL L2 ≤ usedL L := by rw [h2.used, h'.used, usedL_cons]; omega
      obtain ⟨L', n', l', a1, a2, a3, a4, a5⟩ := tail_has (q := q) hX hS hm hy (n := n + 1) l1a h2 (by omega)
      refine ⟨L', n', l', by omega, by omega, a3, by omega, ?_⟩
      · rcases a5 with ⟨b1, b2, b3⟩ | ⟨b1, b2⟩
        · exact .inl ⟨b1, b2, fun e => b3 (l1c e)⟩
        · exact .inr ⟨l1d c0 b1, b2⟩
end
/-- garbage: what Open takes away -/
def GOk (G : List FileD) (S : StD) : Prop := TOk G ∨ ∃ m, G = [fileM m] ∧ Good m ∧ m.n < S.m.n ∧ S.some = true
theorem drop_kept {S : StD} {D : DiskD} : ∀ ns : List ByteArray, (∀ t ∈ ns, keptS S t = true) → dropD S D ns = (0, D) := by
  intro ns
  induction ns with
  | nil => exact fun _ => rfl
  | cons t r ih =>
    intro h
    rw [dropD, if_pos (h t (List.mem_cons_self ..))]
    exact ih fun x hx => h x (List.mem_cons_of_mem _ hx)
theorem drop_one {S : StD} {L R : List FileD} {g : FileD} {q n l : Int} (hb : badN g.name = false) (hk : keptS S g.name = false) (h : Has L (g :: R)) :
    ∀ ns : List ByteArray, ns.Nodup → g.name ∈ ns → (∀ t ∈ ns, keptS S t = true ∨ t = g.name) → ∃ L', Has L' R ∧
      dropD S ⟨L, q, n, l, false⟩ ns = if l = 0 then (160, ⟨L, q, n + 1, -1, true⟩) else (0, ⟨L', q, n + 1, lessL l, false⟩) := by
  intro ns
  induction ns with
  | nil => exact fun _ h => absurd h (by simp)
  | cons t r ih =>
    intro hnd hm ha
    obtain ⟨hn1, hn2⟩ := List.nodup_cons.1 hnd
    by_cases ht : t = g.name
    · subst ht
      obtain ⟨L', h2, he⟩ := remove_has (l := l) (q := q) (n := n) h hb
      refine ⟨L', h2, ?_⟩
      rw [dropD, if_neg (by simp [hk]), he]
      by_cases c0 : l = 0
      · rw [if_pos c0, if_pos (by show (160 : Int) ≠ 0; decide)]
      · rw [if_neg c0, if_neg (by simp)]
        dsimp only
        refine drop_kept r fun x hx => ?_
        rcases ha x (List.mem_cons_of_mem _ hx) with hx2 | rfl
        · exact hx2
        · exact absurd hx hn1
    · have htk : keptS S t = true := (ha t (List.mem_cons_self ..)).resolve_right ht
      obtain ⟨L', h2, he⟩ := ih hn2 ((List.mem_cons.1 hm).resolve_left (Ne.symm ht)) (fun x hx => ha x (List.mem_cons_of_mem _ hx))
      refine ⟨L', h2, ?_⟩
      rw [dropD, if_pos htk]
      exact he
section
variable {X G L : List FileD} {q n l : Int} {S : StD} (hX : Oth X) (hS : StOk S) (hG : GOk G S) (h : Has L (G ++ (keptF S ++ X)))
include hX hS hG h
omit hS in
theorem mf_mem (t : ByteArray) : t ∈ mfNames ⟨L, q, n, l, false⟩ ↔ (∃ g ∈ G, t = g.name) ∨ S.some = true ∧ t = nameM S.m.n := by
  unfold mfNames
  rw [List.mem_filter, List.mem_map]
  constructor
  · rintro ⟨⟨f, hf, rfl⟩, hp⟩
    rcases List.mem_append.1 ((h.2.2 f).1 hf) with hf | hf
    · exact .inl ⟨f, hf, rfl⟩
    · rcases List.mem_append.1 hf with hf | hf
      · obtain ⟨hs, rfl⟩ := kept_mem.1 hf
        exact .inr ⟨hs, rfl⟩
      · rw [hX f hf] at hp; cases hp
  · rintro (⟨g, hg, rfl⟩ | ⟨hs, rfl⟩)
    · refine ⟨⟨g, (h.2.2 g).2 (List.mem_append_left _ hg), rfl⟩, ?_⟩
      rcases hG with (rfl | ⟨b, s, rfl, -⟩) | ⟨m, rfl, -⟩
      · cases hg
      · rw [List.mem_singleton.1 hg]; exact pref_tmp
      · rw [List.mem_singleton.1 hg]; exact pref_name _
    · exact ⟨⟨fileM S.m, (h.2.2 _).2 (List.mem_append_right _ (List.mem_append_left _ (kept_mem.2 ⟨hs, rfl⟩))), rfl⟩, pref_name _⟩
theorem newest_has : newestD ⟨L, q, n, l, false⟩ = S := by
  have hmem := mf_mem (q := q) (n := n) (l := l) hX hG h
  unfold newestD
  have hkr : S.some = true → ((⟨L, q, n, l, false⟩ : DiskD).read (nameM S.m.n)).2 = S.m.bytes := fun hs => by
    rw [show nameM S.m.n = (fileM S.m).name from rfl, read_has h (List.mem_append_right _ (List.mem_append_left _ (kept_mem.2 ⟨hs, rfl⟩))) (fileM_bad (hS.1 hs).1)]
    rfl
  cases hs : S.some with
  | false =>
    rw [hS.2 hs]
    refine scan_zero _ fun t ht => ?_
    rcases (hmem t).1 ht with ⟨g, hg, rfl⟩ | ⟨h1, _⟩
    · rcases hG with (rfl | ⟨b, s, rfl, -⟩) | ⟨m, rfl, _, _, h2⟩
      · cases hg
      · rw [List.mem_singleton.1 hg]; exact scan_tmp
      · rw [hs] at h2; cases h2
    · rw [hs] at h1; cases h1
  | true =>
    obtain ⟨F, hF1, hF2, hF3, hF4⟩ : ∃ F : List ManM, (∀ m ∈ F, Good m) ∧ (∀ m ∈ F, m = S.m ∨ m.n < S.m.n) ∧ S.m ∈ F ∧ ∀ t ∈ mfNames ⟨L, q, n, l, false⟩, (∀ S', scanStep ⟨L, q, n, l, false⟩ S' t = S') ∨ ∃ m ∈ F, t = nameM m.n ∧ ((⟨L, q, n, l, false⟩ : DiskD).read t).2 = m.bytes := by
      rcases hG with hT | ⟨m, rfl, hg, hlt, _⟩
      · refine ⟨[S.m], by simpa using hS.1 hs, by simp, by simp, fun t ht => ?_⟩
        rcases (hmem t).1 ht with ⟨g, hg, rfl⟩ | ⟨_, rfl⟩
        · rcases hT with rfl | ⟨b, s, rfl, -⟩
          · cases hg
          · rw [List.mem_singleton.1 hg]; exact .inl scan_tmp
        · exact .inr ⟨S.m, by simp, rfl, hkr hs⟩
      · refine ⟨[S.m, m], by simpa using ⟨hS.1 hs, hg⟩, by simp [hlt], by simp, fun t ht => ?_⟩
        rcases (hmem t).1 ht with ⟨g, hg2, rfl⟩ | ⟨_, rfl⟩
        · refine .inr ⟨m, by simp, by rw [List.mem_singleton.1 hg2]; rfl, ?_⟩
          rw [List.mem_singleton.1 hg2, read_has h (List.mem_append_left _ (by simp)) (fileM_bad hg.1)]
          rfl
        · exact .inr ⟨S.m, by simp, rfl, hkr hs⟩
    obtain ⟨h1, h2⟩ := scan_inv hF1 _ hF4
    have hp := (hS.1 hs).pos
    have hge : S.m.n ≤ (scanD ⟨L, q, n, l, false⟩ (mfNames ⟨L, q, n, l, false⟩)).m.n := by
      rcases h2 S.m hF3 ((hmem _).2 (.inr ⟨hs, rfl⟩)) with hx | hx
      · have := hx ⟨zeroM, false⟩
        unfold scanStep at this
        rw [hkr hs, getM_bytes (hS.1 hs).1 (hS.1 hs).2] at this
        have h3 : (if nameM S.m.n = nameM S.m.n ∧ zeroM.n < S.m.n then (⟨S.m, true⟩ : StD) else ⟨zeroM, false⟩) = ⟨zeroM, false⟩ := this
        rw [if_pos ⟨rfl, by show (0 : Int) < S.m.n; omega⟩] at h3
        injection h3 with _ h4
        cases h4
      · exact hx
    rcases h1 with h1 | ⟨h1, h3⟩
    · rw [h1] at hge
      have : (0 : Int) < 0 := by have h5 : S.m.n ≤ 0 := hge; omega
      omega
    · obtain ⟨mm, ss⟩ := S
      have h4 := hF2 _ h3
      have h5 : (scanD ⟨L, q, n, l, false⟩ (mfNames ⟨L, q, n, l, false⟩)).m = mm := by
        rcases h4 with h4 | h4
        · exact h4
        · exact absurd h4 (by omega)
      generalize scanD ⟨L, q, n, l, false⟩ (mfNames ⟨L, q, n, l, false⟩) = R at h1 h5
      obtain ⟨rm, rs⟩ := R
      dsimp only at h1 h5 hs
      rw [h1, h5, hs]
/-- OPEN -/
theorem open_has (hl : -1 ≤ l) : newestD ⟨L, q, n, l, false⟩ = S ∧
    ((∃ L' n' l', openD ⟨L, q, n, l, false⟩ = (0, ⟨L', q, n', l', false⟩) ∧ Has L' (keptF S ++ X) ∧ n ≤ n' ∧ n' ≤ n + 1 ∧ -1 ≤ l' ∧ l' ≤ max l (-1) ∧ (l = -1 → l' = -1)) ∨
      (l = 0 ∧ openD ⟨L, q, n, l, false⟩ = (160, ⟨L, q, n + 1, -1, true⟩))) := by
  have hmem := mf_mem (q := q) (n := n) (l := l) hX hG h
  have hnew := newest_has (q := q) (n := n) (l := l) hX hS hG h
  refine ⟨hnew, ?_⟩
  have hnd : (mfNames ⟨L, q, n, l, false⟩).Nodup := h.1.nodupN.sublist List.filter_sublist
  unfold openD
  rw [if_neg (by simp), hnew]
  have hkk : ∀ t, S.some = true ∧ t = nameM S.m.n → keptS S t = true := fun t ⟨h1, h2⟩ => by unfold keptS; rw [h1, h2]; simp
  have hgo : ∀ g, G = [g] → badN g.name = false → keptS S g.name = false → _ := fun g hg hb hk => by
    subst hg
    exact drop_one (q := q) (n := n) (l := l) hb hk h (mfNames ⟨L, q, n, l, false⟩) hnd ((hmem _).2 (.inl ⟨g, by simp, rfl⟩)) (fun t ht => by
      rcases (hmem t).1 ht with ⟨g', hg', rfl⟩ | hx
      · exact .inr (by rw [List.mem_singleton.1 hg'])
      · exact .inl (hkk t hx))
  have hfin : ∀ g, G = [g] → badN g.name = false → keptS S g.name = false →
      (∃ L' n' l', dropD S ⟨L, q, n, l, false⟩ (mfNames ⟨L, q, n, l, false⟩) = (0, ⟨L', q, n', l', false⟩) ∧ Has L' (keptF S ++ X) ∧ n ≤ n' ∧ n' ≤ n + 1 ∧ -1 ≤ l' ∧ l' ≤ max l (-1) ∧ (l = -1 → l' = -1)) ∨ (l = 0 ∧ dropD S ⟨L, q, n, l, false⟩ (mfNames ⟨L, q, n, l, false⟩) = (160, ⟨L, q, n + 1, -1, true⟩)) := fun g hg hb hk => by
    obtain ⟨L', h2, he⟩ := hgo g hg hb hk
    obtain ⟨l1a, l1b, l1c, _⟩ := lessL_le l hl
    by_cases c0 : l = 0
    · rw [if_pos c0] at he
      exact .inr ⟨c0, he⟩
    · rw [if_neg c0] at he
      exact .inl ⟨L', n + 1, lessL l, he, h2, by omega, by omega, l1a, l1b, l1c⟩
  rcases hG with (rfl | ⟨b, s, rfl, -⟩) | ⟨m, rfl, hg, hlt, hs⟩
  · refine .inl ⟨L, n, l, drop_kept _ fun t ht => ?_, h, by omega, by omega, hl, by omega, fun e => e⟩
    rcases (hmem t).1 ht with ⟨g', hg', _⟩ | hx
    · cases hg'
    · exact hkk t hx
  · refine hfin _ rfl tmp_bad ?_
    unfold keptS
    have := hS.nn
    rw [Bool.and_eq_false_iff]
    exact .inr (decide_eq_false (fun e => nameM_tmp this.1 e.symm))
  · refine hfin _ rfl (fileM_bad hg.1) ?_
    unfold keptS
    rw [Bool.and_eq_false_iff]
    refine .inr (decide_eq_false (fun e => ?_))
    have := nameM_inj (by have := hg.pos; omega) (by have := hS.nn; omega) e
    omega
end
end Go.Proofs.YtlcgkcafelpglaaGreatDoor
