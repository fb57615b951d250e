/- The reference's store of manifests in plain words: Write; alike to the program's over disks that are alike. -/
import Derived.Test.YtlcgkcafelpglaaGreatDoorRkP
import Derived.Test.YtlcgkcafelpglaaGreatDoorMaX
namespace Go.Proofs.YtlcgkcafelpglaaGreatDoor
open Go.RowKit

def clearR (R : RDisk) : Int × RDisk := if (R.read tmpN).1 = 0 then R.remove tmpN else (0, R)
def stepR (x : Int × RDisk) (f : RDisk → Int × RDisk) : Int × RDisk := if x.1 = 0 then f x.2 else x
def w2R (R : RDisk) (m : ManM) : Int × RDisk := stepR (clearR R) fun R => R.append tmpN m.bytes
def w3R (R : RDisk) (m : ManM) : Int × RDisk := stepR (w2R R m) fun R => R.sync tmpN
def w4R (R : RDisk) (m : ManM) : Int × RDisk := stepR (w3R R m) fun R => R.rename tmpN (nameM m.n)
def w5R (R : RDisk) (m : ManM) : RDisk := if (w4R R m).1 = 161 then (clearR (w4R R m).2).2 else (w4R R m).2
def writeR (R : RDisk) (S : StD) (m : ManM) : Int × RDisk × StD :=
  if (nextM S m).may = false then (2, R, S)
  else if (w4R R (nextM S m)).1 ≠ 0 then ((w4R R (nextM S m)).1, w5R R (nextM S m), S)
  else if S.some = true then (((w4R R (nextM S m)).2.remove (nameM S.m.n)).1, ((w4R R (nextM S m)).2.remove (nameM S.m.n)).2, ⟨nextM S m, true⟩)
  else (0, (w4R R (nextM S m)).2, ⟨nextM S m, true⟩)
theorem sim_clear {D : DiskD} {R : RDisk} (h : Sim D R) : (clearD D).1 = (clearR R).1 ∧ Sim (clearD D).2 (clearR R).2 := by
  unfold clearD clearR
  rw [sim_read h]
  by_cases he : (R.read tmpN).1 = 0
  · rw [if_neg (by simpa using he), if_pos he]
    exact sim_remove h tmpN
  · rw [if_pos he, if_neg he]
    exact ⟨rfl, h⟩
theorem sim_out {D : DiskD} {R : RDisk} (h : Sim D R) (E : Int) (S : StD) : (outD E D S).1 = E ∧ (outD E D S).2.2 = S ∧ Sim (outD E D S).2.1 (if E = 161 then (clearR R).2 else R) := by
  unfold outD
  by_cases he : E = 161
  · rw [if_pos he, if_pos he]; exact ⟨rfl, rfl, (sim_clear h).2⟩
  · rw [if_neg he, if_neg he]; exact ⟨rfl, rfl, h⟩
theorem sim_write {D : DiskD} {R : RDisk} (h : Sim D R) (S : StD) (m : ManM) : (writeD D S m).1 = (writeR R S m).1 ∧ (writeD D S m).2.2 = (writeR R S m).2.2 ∧ Sim (writeD D S m).2.1 (writeR R S m).2.1 := by
  rw [write_tail]
  unfold writeR
  by_cases hm : (nextM S m).may = false
  · rw [if_pos hm, if_pos hm]; exact ⟨rfl, rfl, h⟩
  rw [if_neg hm, if_neg hm]
  obtain ⟨e1, s1⟩ := sim_clear h
  by_cases h1 : (clearD D).1 = 0
  case neg =>
    have h1' : (clearR R).1 ≠ 0 := by rw [← e1]; exact h1
    have hw : w4R R (nextM S m) = clearR R := by unfold w4R w3R w2R stepR; simp [h1']
    rw [if_pos h1, hw, if_pos h1']
    unfold w5R
    rw [hw]
    obtain ⟨a, b, c⟩ := sim_out s1 (clearD D).1 S
    rw [e1] at a b c
    exact ⟨by rw [e1]; exact a, by rw [e1]; exact b, by rw [e1]; exact c⟩
  have h1' : (clearR R).1 = 0 := by rw [← e1]; exact h1
  rw [if_neg (by simpa using h1)]
  unfold tailD
  obtain ⟨e2, s2⟩ := sim_append s1 tmpN (nextM S m).bytes
  have hw2 : w2R R (nextM S m) = (clearR R).2.append tmpN (nextM S m).bytes := by unfold w2R stepR; rw [if_pos h1']
  rw [← hw2] at e2 s2
  by_cases h2 : ((clearD D).2.append tmpN (nextM S m).bytes).1 = 0
  case neg =>
    have h2' : (w2R R (nextM S m)).1 ≠ 0 := by rw [← e2]; exact h2
    have hw : w4R R (nextM S m) = w2R R (nextM S m) := by unfold w4R w3R stepR; simp [h2']
    rw [if_pos h2, hw, if_pos h2']
    unfold w5R
    rw [hw]
    obtain ⟨a, b, c⟩ := sim_out s2 ((clearD D).2.append tmpN (nextM S m).bytes).1 S
    rw [e2] at a b c
    exact ⟨by rw [e2]; exact a, by rw [e2]; exact b, by rw [e2]; exact c⟩
  have h2' : (w2R R (nextM S m)).1 = 0 := by rw [← e2]; exact h2
  rw [if_neg (by simpa using h2)]
  obtain ⟨e3, s3⟩ := sim_sync s2 tmpN
  have hw3 : w3R R (nextM S m) = (w2R R (nextM S m)).2.sync tmpN := by unfold w3R stepR; rw [if_pos h2']
  rw [← hw3] at e3 s3
  by_cases h3 : (((clearD D).2.append tmpN (nextM S m).bytes).2.step 0 tmpN tmpN 0 true).1 = 0
  case neg =>
    have h3' : (w3R R (nextM S m)).1 ≠ 0 := by rw [← e3]; exact h3
    have hw : w4R R (nextM S m) = w3R R (nextM S m) := by unfold w4R stepR; simp [h3']
    rw [if_pos h3, hw, if_pos h3']
    unfold w5R
    rw [hw]
    obtain ⟨a, b, c⟩ := sim_out s3 (((clearD D).2.append tmpN (nextM S m).bytes).2.step 0 tmpN tmpN 0 true).1 S
    rw [e3] at a b c
    exact ⟨by rw [e3]; exact a, by rw [e3]; exact b, by rw [e3]; exact c⟩
  have h3' : (w3R R (nextM S m)).1 = 0 := by rw [← e3]; exact h3
  rw [if_neg (by simpa using h3)]
  obtain ⟨e4, s4⟩ := sim_rename s3 tmpN (nameM (nextM S m).n)
  have hw4 : w4R R (nextM S m) = (w3R R (nextM S m)).2.rename tmpN (nameM (nextM S m).n) := by unfold w4R stepR; rw [if_pos h3']
  rw [← hw4] at e4 s4
  by_cases h4 : ((((clearD D).2.append tmpN (nextM S m).bytes).2.step 0 tmpN tmpN 0 true).2.step 2 tmpN (nameM (nextM S m).n) 0 true).1 = 0
  case neg =>
    have h4' : (w4R R (nextM S m)).1 ≠ 0 := by rw [← e4]; exact h4
    rw [if_pos h4, if_pos h4']
    unfold w5R
    obtain ⟨a, b, c⟩ := sim_out s4 ((((clearD D).2.append tmpN (nextM S m).bytes).2.step 0 tmpN tmpN 0 true).2.step 2 tmpN (nameM (nextM S m).n) 0 true).1 S
    rw [e4] at a b c
    exact ⟨by rw [e4]; exact a, by rw [e4]; exact b, by rw [e4]; exact c⟩
  have h4' : (w4R R (nextM S m)).1 = 0 := by rw [← e4]; exact h4
  rw [if_neg (show ¬ ((((clearD D).2.append tmpN (nextM S m).bytes).2.step 0 tmpN tmpN 0 true).2.step 2 tmpN (nameM (nextM S m).n) 0 true).1 ≠ 0 from fun e => e h4), if_neg (show ¬ (w4R R (nextM S m)).1 ≠ 0 from fun e => e h4')]
  cases hs : S.some with
  | false => simp only [Bool.false_eq_true, if_false]; exact ⟨trivial, trivial, s4⟩
  | true =>
    simp only [if_true]
    obtain ⟨e5, s5⟩ := sim_remove s4 (nameM S.m.n)
    exact ⟨e5, trivial, s5⟩
def scanStepR (S : StD) (x : PF) : StD := match getM x.2 with
  | none => S
  | some m => if nameM m.n = x.1 ∧ (S.some = false ∨ S.m.n < m.n) then ⟨m, true⟩ else S
def scanR (l : List PF) (S : StD) : StD := l.foldl (fun S x => if prefN x.1 = true then scanStepR S x else S) S
def newestR (R : RDisk) : StD := scanR R.files ⟨zeroM, false⟩
def mfR (R : RDisk) : List ByteArray := (R.files.map (·.1)).filter prefN
def dropR (S : StD) : RDisk → List ByteArray → Int × RDisk
  | R, [] => (0, R)
  | R, t :: r => if keptS S t = true then dropR S R r else if (R.remove t).1 ≠ 0 then R.remove t else dropR S (R.remove t).2 r
def openR (R : RDisk) : Int × RDisk := if R.gone = true then (160, R) else dropR (newestR R) R (mfR R)
theorem scan_sim {D : DiskD} {R : RDisk} (h : Sim D R) (hoff : D.off = false) : ∀ (L : List FileD) (S : StD), (∀ f ∈ L, f ∈ D.files) → (S.some = false → S = ⟨zeroM, false⟩) →
    ((L.map (·.name)).filter prefN).foldl (scanStep D) S = scanR (seenL L) S := by
  intro L
  induction L with
  | nil => intro S _ _; rfl
  | cons f L ih =>
    intro S hL hS
    have e : scanR (seenL (f :: L)) S = scanR (seenL L) (if prefN f.name = true then scanStepR S (f.name, f.b) else S) := rfl
    rw [e, List.map_cons, List.filter_cons]
    by_cases hp : prefN f.name = true
    · rw [if_pos hp, if_pos hp, List.foldl_cons]
      have hr : (D.read f.name).2 = f.b := by
        rw [sim_read h]
        unfold RDisk.read RDisk.refused RDisk.got
        rw [h.off, hoff, h.good f (hL f (List.mem_cons_self ..)), h.files, getP_mem h.sorted (hL f (List.mem_cons_self ..))]
        simp
      have hst : scanStep D S f.name = scanStepR S (f.name, f.b) := by
        unfold scanStep scanStepR
        rw [hr]
        cases hg : getM f.b with
        | none => rfl
        | some m =>
          dsimp only
          have hgm := getM_some hg
          have hp1 := Good.pos ⟨hgm.2.2.1, hgm.2.1⟩
          by_cases hs : S.some = false
          · have hz : S.m.n = 0 := by rw [hS hs]; rfl
            simp only [hs, true_or, and_true]
            by_cases hn : nameM m.n = f.name
            · rw [if_pos ⟨hn, by omega⟩, if_pos hn]
            · rw [if_neg (fun e => hn e.1), if_neg hn]
          · by_cases hn : nameM m.n = f.name ∧ S.m.n < m.n
            · rw [if_pos hn, if_pos ⟨hn.1, .inr hn.2⟩]
            · rw [if_neg hn, if_neg (fun e => hn ⟨e.1, e.2.resolve_left hs⟩)]
      rw [hst]
      refine ih _ (fun g hg => hL g (List.mem_cons_of_mem _ hg)) ?_
      unfold scanStepR
      cases getM f.b with
      | none => exact hS
      | some m =>
        dsimp only
        split
        · intro e; cases e
        · exact hS
    · rw [if_neg hp, if_neg hp]
      exact ih S (fun g hg => hL g (List.mem_cons_of_mem _ hg)) hS
theorem sim_newest {D : DiskD} {R : RDisk} (h : Sim D R) (hoff : D.off = false) : newestD D = newestR R := by
  unfold newestD newestR scanD mfNames
  rw [h.files]
  exact scan_sim h hoff D.files _ (fun _ hf => hf) fun _ => rfl
theorem sim_drop (S : StD) : ∀ (ns : List ByteArray) {D : DiskD} {R : RDisk}, Sim D R → (dropD S D ns).1 = (dropR S R ns).1 ∧ Sim (dropD S D ns).2 (dropR S R ns).2 := by
  intro ns
  induction ns with
  | nil => intro D R h; exact ⟨rfl, h⟩
  | cons t r ih =>
    intro D R h
    rw [dropD, dropR]
    by_cases hk : keptS S t = true
    · rw [if_pos hk, if_pos hk]; exact ih h
    · rw [if_neg hk, if_neg hk]
      obtain ⟨e, s⟩ := sim_remove h t
      by_cases he : (D.step 3 t t 0 true).1 = 0
      · rw [if_neg (by simpa using he), if_neg (by rw [← e]; simpa using he)]
        exact ih s
      · rw [if_pos he, if_pos (by rw [← e]; exact he)]
        exact ⟨e, s⟩
theorem sim_open {D : DiskD} {R : RDisk} (h : Sim D R) : (openD D).1 = (openR R).1 ∧ Sim (openD D).2 (openR R).2 := by
  unfold openD openR
  rw [h.off]
  cases hoff : D.off with
  | true => simp; exact h
  | false =>
    simp only [Bool.false_eq_true, if_false]
    have hm : mfNames D = mfR R := by
      unfold mfNames mfR
      rw [h.files]
      unfold seenL
      rw [List.map_map]
      rfl
    rw [sim_newest h hoff, hm]
    exact sim_drop _ _ h
end Go.Proofs.YtlcgkcafelpglaaGreatDoor
